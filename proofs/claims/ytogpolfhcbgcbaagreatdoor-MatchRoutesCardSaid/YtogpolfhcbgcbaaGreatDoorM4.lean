/-Small facts on worlds, strings as lists of bytes, rows of bytes: used by every walk of this seat; no statement of the seat is proved here; and what stands between these and the texts behind.-/
import Derived.Test.YtogpolfhcbgcbaaGreatDoorRows
import Derived.WalkKit
import Derived.WalkSpells
import Derived.WalkLawsBesides
import Derived.Deep.DeepCutAuto
import Derived.Deep.OwnRows
import Derived.Laws.IdiomStrings
import Derived.Lib.Hide
import Derived.Below
import Derived.ChangeSame
import Derived.ScopeJumps
import Derived.ProofKit
import Derived.OpenShut
import Derived.Carry
import Derived.Lib.SmallJoins
import Derived.RegionTactic
import Derived.BigRegion
import Derived.Test.YtogpolfhcbgcbaaGreatDoorM3
import Derived.Test.YtogpolfhcbgcbaaGreatDoorShelf
import Derived.Shelf.Strconv.Itoa3
import Derived.Lib.AppendIntMem
import Derived.Lib.Walk
import Derived.BigCall
import Derived.BigGuard
import Derived.Lib.AtoiErrMem
import Derived.Lib.ParseIntBCases
import Derived.ChangeArms
import Derived.ChangeSlices
import Derived.WideShapes
import Derived.Lib.Builder
import Derived.Lib.Overlaps
import Derived.Laws.FloatArith
namespace Go.Proofs.YtogpolfhcbgcbaaGreatDoor
open Go.RowKit Go.WideShapes Go.ChangeShapes Go.ChangeAt
def zmm (b : UInt8) : Value := .int .u8 (b.toNat : Int)
def str (l : List UInt8) : Value := .string ⟨l.toArray⟩
theorem zhx (n : Nat) : zmm (UInt8.ofNat n) = .int .u8 ((n : Int) % 256) := by
 have h : (((UInt8.ofNat n).toNat : Nat) : Int) = (n : Int) % 256 := by
   rw [UInt8.toNat_ofNat']; omega
 unfold zmm; rw [h]
@[go_sem] theorem ba_get (l : List UInt8) (k : Nat) (h : k < (⟨l.toArray⟩ : ByteArray).size) : (⟨l.toArray⟩ : ByteArray)[k] = l[k]'h := rfl
@[go_sem] theorem ba_append (a b : List UInt8) : (⟨a.toArray⟩ : ByteArray) ++ ⟨b.toArray⟩ = ⟨(a ++ b).toArray⟩ := by
 apply ByteArray.ext; simp
theorem zj5 (l : List UInt8) (a b : Nat) : (⟨l.toArray⟩ : ByteArray).extract a b = ⟨((l.drop a).take (b - a)).toArray⟩ := by
 apply ByteArray.ext; simp [ByteArray.data_extract]
@[go_sem] theorem ba_extract_all (l : List UInt8) (a : Nat) : (⟨l.toArray⟩ : ByteArray).extract a l.length = ⟨(l.drop a).toArray⟩ := by
 rw [zj5, List.take_of_length_le (by simp)]
@[go_sem] theorem ba_extract_zero (l : List UInt8) (b : Nat) : (⟨l.toArray⟩ : ByteArray).extract 0 b = ⟨(l.take b).toArray⟩ := by
 rw [zj5, List.drop_zero, Nat.sub_zero]
@[go_sem] theorem wrap_byte_u64 (b : UInt8) : IntKind.u64.wrap (b.toNat : Int) = b.toNat := by
 have := b.toNat_lt; rw [IntKind.wrap_u64]; omega
@[go_sem] theorem wrap_byte_u32 (b : UInt8) : IntKind.u32.wrap (b.toNat : Int) = b.toNat := by
 have := b.toNat_lt; rw [IntKind.wrap_u32]; omega
@[go_sem] theorem wrap_byte_u16 (b : UInt8) : IntKind.u16.wrap (b.toNat : Int) = b.toNat := by
 have := b.toNat_lt; rw [IntKind.wrap_u16]; omega
@[go_sem] theorem wrap_byte_u8 (b : UInt8) : IntKind.u8.wrap (b.toNat : Int) = b.toNat := by
 have := b.toNat_lt; rw [IntKind.wrap_u8]; omega
@[go_sem] theorem wrap_byte_i64 (b : UInt8) : IntKind.i64.wrap (b.toNat : Int) = b.toNat := by
 have := b.toNat_lt; rw [IntKind.wrap_i64]; omega
theorem zj6 (g j : Nat) : (⟨g, 0, none⟩ : Addr).add j = ⟨g, j, none⟩ := by
 unfold Addr.add
 split
 · rename_i h; rw [h]
 · rw [Nat.zero_add]
theorem yl2 {P : Program} {w : World} {src dst e : TypeId} {g n cap : Nat} {f : Nat -> Value} (l : List UInt8) (hs : P.underlying src = some (.slice e)) (he : P.underlying e = some (.int .u8)) (hd : P.underlying dst = some .string)
   (hr : w.rowIs g e n f) (hl : l.length = n) (hf : ∀ i (hi : i < l.length), f i = zmm l[i]) :
   (convert src dst (.slice (some ⟨g, 0, none⟩) n cap)).run P w = .ok (.string ⟨l.toArray⟩) w := by
 subst hl
 refine run_convert_bytes_back w src dst e _ cap l hs he hd fun j hj => ?_
 have := hr.cell hj
 rw [hf j hj] at this
 rw [zj6]
 exact this
def Row (w : World) (b : Nat) (t : TypeId) (n : Nat) (f : Nat -> Value) : Prop :=
 ∃ (c : Array Value) (lo hi : Nat), w.heap[b]? = some (.cells c t (lo, hi)) /\ n <= c.size /\ (hi = 0 \/ n <= lo) /\ ∀ i, i < n -> c[i]? = some (f i)
section
variable {w w' : World} {b : Nat} {t : TypeId} {n : Nat} {f g : Nat -> Value}
theorem Row.cell (h : Row w b t n f) {i : Nat} (hi : i < n) : w.cell? ⟨b, i, none⟩ = some (f i) := by
 obtain ⟨c, lo, hi', hb, _, _, hc⟩ := h
 simp [World.cell?, hb, hc i hi]
theorem Row.frozen (h : Row w b t n f) {i : Nat} (hi : i < n) : w.frozen? ⟨b, i, none⟩ = false := by
 obtain ⟨c, lo, hi', hb, _, hf, _⟩ := h
 simp only [World.frozen?, hb]
 rcases hf with hf | hf
 · subst hf; simp
 · simp; omega
theorem Row.lt (h : Row w b t n f) : b < w.heap.size := by
 obtain ⟨c, lo, hi, hb, _⟩ := h
 exact (Array.getElem?_eq_some_iff.1 hb).1
theorem Row.congr (h : Row w b t n f) (e : ∀ i, i < n -> f i = g i) : Row w b t n g := by
 obtain ⟨c, lo, hi, hb, hn, hf, hc⟩ := h
 exact ⟨c, lo, hi, hb, hn, hf, fun i hi => by rw [hc i hi, e i hi]⟩
theorem Row.of_block (h : Row w b t n f) (e : w'.heap[b]? = w.heap[b]?) : Row w' b t n f := by
 obtain ⟨c, lo, hi, hb, hn, hf, hc⟩ := h
 exact ⟨c, lo, hi, e.trans hb, hn, hf, hc⟩
theorem Row.set (h : Row w b t n f) (i : Nat) (v : Value) : Row (w.setCell ⟨b, i, none⟩ v) b t n (fun j => if j = i then v else f j) := by
 obtain ⟨c, lo, hi', hb, hn, hf, hc⟩ := h
 refine ⟨c.setIfInBounds i v, lo, hi', ?_, by simpa using hn, hf, fun j hj => ?_⟩
 · simp [World.setCell, Array.getElem?_modify, hb]
 · rw [Array.getElem?_setIfInBounds]
   by_cases e : i = j
   · subst e
     have : i < c.size := by omega
     simp [this]
   · rw [if_neg e, hc j hj]
     show _ = some (if j = i then v else f j)
     rw [if_neg (fun (h : j = i) => e h.symm)]
theorem Row.alloc (h : Row w b t n f) (o : Obj) : Row (w.alloc o) b t n f := h.of_block (Below.heap_alloc _ _ _ h.lt)
theorem Row.below (h : Row w b t n f) {B : Nat} (hb : Below B w w') (hB : b < B) : Row w' b t n f := h.of_block (hb.block b hB)
theorem Row.drewN (h : Row w b t n f) (k : Nat) : Row (w.drewN k) b t n f := h
theorem Row.bytes (w : World) (t : TypeId) (l : List UInt8) (cap : Nat) : Row (w.alloc (.cells (bytesRow ⟨l.toArray⟩ cap) t ((bytesRow ⟨l.toArray⟩ cap).size, (bytesRow ⟨l.toArray⟩ cap).size + 1))) w.heap.size t l.length (fun j => zmm (l.getD j 0)) := by
 refine ⟨bytesRow ⟨l.toArray⟩ cap, _, _, heap_alloc_new _ _, by simp [bytesRow], .inr (by simp [bytesRow]), fun i hi => ?_⟩
 rw [bytesRow_at _ _ _ (by simpa using hi)]
 simp [zmm, hi]
end
def Blk (w : World) (g : Nat) (t : TypeId) (cs : Array Value) : Prop := w.heap[g]? = some (.cells cs t (0, 0))
section
variable {w w' : World} {g : Nat} {t : TypeId} {cs : Array Value}
theorem Blk.lt (h : Blk w g t cs) : g < w.heap.size := by
 rcases Nat.lt_or_ge g w.heap.size with hlt | hge
 · exact hlt
 · unfold Blk at h; rw [Array.getElem?_eq_none hge] at h; cases h
theorem Blk.cell (h : Blk w g t cs) (i : Nat) : w.cell? ⟨g, i, none⟩ = cs[i]? := cell_of_row w g i cs t (0, 0) h
theorem Blk.frozen (h : Blk w g t cs) (i : Nat) : w.frozen? ⟨g, i, none⟩ = false := by
 unfold Blk at h
 simp [World.frozen?, h]
theorem Blk.new (w : World) (t : TypeId) (cs : Array Value) : Blk (w.alloc (.cells cs t)) w.heap.size t cs := heap_alloc_new w _
theorem Blk.drew (h : Blk w g t cs) : Blk w.drew g t cs := h
theorem Blk.drewN (h : Blk w g t cs) (n : Nat) : Blk (w.drewN n) g t cs := h
theorem Blk.alloc (h : Blk w g t cs) (o : Obj) : Blk (w.alloc o) g t cs := (Below.heap_alloc w o g h.lt).trans h
theorem Blk.below {B : Nat} (h : Blk w g t cs) (hb : Below B w w') (hg : g < B) : Blk w' g t cs := (hb.block g hg).trans h
theorem Blk.grown {row : Option Nat} (h : Blk w g t cs) (hb : w.grownBy w' row) (hg : some g ≠ row) : Blk w' g t cs := (hb.block g h.lt hg).trans h
end
theorem zml {base : Nat} {e : TypeId} {size n : Nat} {v : Value} {xs : List Value} {w w' : World} (hown : w.ownsRow base e size v n xs) (hb : base <= w.heap.size) (hg : w.grownBy w' v.ownBlock) : Below base w w' :=
 (Below.refl _ _).grown hg hb fun k hk => (hown.lt k hk).1
theorem zky {P : Program} {ops : Array Oper} {rest : List Oper} {o : Oper} {a : Act} {Q : Exit -> Act -> World -> Prop} (wr : World) (hgd : o.guard = none) (s x : Operand) (t : TypeId)
   (ho : o.op = .call { callee := .builtin .append, args := #[s, x], argTypes := #[t, t] })
   (base : Nat) (e : TypeId) (z : Value) (bytes : Nat) (ht : P.underlying t = some (.slice e)) (hinfo : (P.info? e).map (fun i => (i.zero, i.size, i.bytes)) = some (some z, 1, bytes)) (hz1 : z.cells.size = 1)
   (v : Value) (n : Nat) (xs : List Value) (hs : a.eval s = v) (hown : wr.ownsRow base e 1 v n xs)
   (c : Value) (h1 : c.oneCell' = true) (hx : a.eval x = .slice (some ⟨wr.heap.size, 0, none⟩) 1 1)
   (hbytes : (n + 1) * bytes <= 140737488355328) (hn : n < 9223372036854775807) (hbase : base <= wr.heap.size)
   (h : ∀ v' w', w'.ownsRow base e 1 v' (n + 1) (xs ++ [c]) -> Below base wr w' -> wpList P ops Q rest (a.put o.dst v') w') : wpList P ops Q (o :: rest) a (wr.alloc (.cells #[c] e)) := by
 obtain ⟨i, hi, hzz⟩ := Option.map_eq_some_iff.1 hinfo
 simp only [Prod.mk.injEq] at hzz
 obtain ⟨hz, hsz, hby⟩ := hzz
 have hown' := hown.alloc (.cells #[c] e)
 refine wpList_append_own _ hgd s x t ho base e i z 1 bytes ht hi hz hsz hby hz1 (by decide) v n xs hs hown' ⟨wr.heap.size, 0, none⟩ 1 1 [c] hx rfl ?_ ?_ ?_ hbytes ?_ ?_
 · intro j u hj
   match j, hj with
   | 0, hj =>
     simp at hj; subst hj
     rw [zj6, cell_of_row _ _ _ _ _ _ (heap_alloc_new wr _)]; rfl
 · intro u hu
   simp at hu; subst hu; exact h1
 · unfold maxLen; omega
 · simp; omega
 · intro v' w' ho' hg _
   exact h v' w' ho' (((Below.refl _ _).alloc hbase _).trans (zml hown' (by simp; omega) hg))
theorem zzx {P : Program} {src dst e : TypeId} (hs : P.underlying src = some (.slice e)) (he : P.underlying e = some (.int .u8)) (hd : P.underlying dst = some .string) {w : World} {base n : Nat} {v : Value} (l : List UInt8)
   (h : w.ownsRow base e 1 v n (l.map zmm)) : (convert src dst v).run P w = .ok (.string ⟨l.toArray⟩) w := by
 rcases h.2 with ⟨rfl, rfl⟩ | ⟨g, cap, cur, rfl, _, hh, hnc, _, hsz, hx⟩
 · have hl : l = [] := by have := h.1; simpa using this
   subst hl
   rw [run_convert_bytes_string w src dst e none 0 0 hs he hd]
   simp [Conv.bytesToString]; rfl
 · have hl : l.length = n := by have := h.1; simpa using this
   subst hl
   refine run_convert_bytes_back w src dst e _ cap l hs he hd fun j hj => ?_
   have := h.cells (g := g) rfl j (zmm l[j]) (by simp [hj])
   exact this
theorem yco {a b : List UInt8} (h : a = b) : Ending.returned (.string ⟨a.toArray⟩) = .returned (.string ⟨b.toArray⟩) := by rw [h]
theorem zms {P : Program} {a : Act} {w : World} {Q : Exit -> Act -> World -> Prop} {c rest : Code} (l : Nat) (J : Act -> World -> Prop) (μ : Act -> World -> Nat) (hf : findLabel c l = some (.seq .skip rest))
   (pass : ∀ a w, J a w -> rest.wp P (Exit.jump l (fun a' w' => J a' w' /\ μ a' w' < μ a w) Q) a w)
   (first : Hid (∀ a w, J a w -> rest.wp P (Exit.jump l J Q) a w) -> c.wp P (Exit.jump l J Q) a w) : (Code.scope c).wp P Q a w := by
 refine wp_scope_jumps l J μ hf (first fun a w hJ => Code.wp_mono (fun e a' w' hq => ?_) (pass a w hJ)) fun a w hJ => wp_seq (wp_skip (pass a w hJ))
 cases e <;> first | exact hq | exact ⟨hq.1, hq.2.1⟩
section
variable {l : Nat} {J : Act -> World -> Prop} {Q : Exit -> Act -> World -> Prop} {a : Act} {w : World}
@[go_sem] theorem jump_normal : Exit.jump l J Q .normal a w = Q .normal a w := rfl
@[go_sem] theorem jump_exit (id : Nat) : Exit.jump l J Q (.exit id) a w = Q (.exit id) a w := rfl
@[go_sem] theorem jump_ret : Exit.jump l J Q .ret a w = Q .ret a w := rfl
@[go_sem] theorem jump_panic (ch : List PanicEntry) : Exit.jump l J Q (.panic ch) a w = Q (.panic ch) a w := rfl
end
section
variable {H : Type} {enc : TypeId × Value -> H} {P : Program}
theorem zp0 {f : Func} {s : ChangeSpec} {apart fresh handsOn again : Bool} {W W' : World} {args : Array Value} {v : Value} {ds gs : List (DataW H)} {before pa pv : List MemPlace}
   (hW : DataW.Whole enc P f.params.toList s.vars apart W args.toList ds gs before)
   (hres : ∀ (b : Nat) (sp : Nat -> Bool) (hd : Bool), DataW.TrodAll enc P W' b sp hd f.resultTypes.toList (v.resultList f.resultTypes.size) (s.fn H (ds ++ gs)).results [])
   (hargs : ∀ sp : Nat -> Bool, (∀ p ∈ before, sp p.block = true) -> DataW.TrodAll enc P W' 0 sp true f.params.toList args.toList (s.fn H (ds ++ gs)).args pa)
   (hvars : ∀ sp : Nat -> Bool, (∀ p ∈ before, sp p.block = true) -> DataW.TrodVars enc P W' sp s.vars (s.fn H (ds ++ gs)).vars pv)
   (hps : before = pa ++ pv) (hb : Below W.heap.size W W')
   (hok : ∀ (j : Nat) (t : TypeId) (r : Value), f.resultTypes[j]? = some t -> (v.resultList f.resultTypes.size)[j]? = some r -> Value.okWide P W' .any 0 t r) :
   s.post enc P f apart fresh handsOn again W args v W' := by
 have hlt : ∀ p ∈ before, p.block < W.heap.size := fun p hp => hW.lt p hp
 have hold : ∀ p ∈ before, (fun b => decide (b < W.heap.size)) p.block = true := fun p hp => by simpa using hlt p hp
 refine ⟨ds, gs, before, [], pa, pv, hW, hres _ _ _, hargs _ hold, hvars _ hold, World.keptBut_mono (fun p hp => ⟨hp, ?_⟩) (hb.frame (· ∈ before)), fun _ => ?_⟩
 · rw [hps, List.mem_append] at hp
   exact Or.inr hp
 · obtain ⟨_, _, _, _, _, hz, hn⟩ := hW
   refine ⟨hok, _, _, ([] ++ pa) ++ pv, ⟨[] ++ pa, pv, trodAll_append (hargs _ (fun _ _ => rfl)) (hres _ _ _), hvars _ (fun _ _ => rfl), rfl, ?_, ?_⟩, ?_⟩
   · intro b off hp
     have hin : MemPlace.cell b off ∈ before := by rw [hps]; simpa using hp
     rw [hb.frozen (hlt _ hin)]
     exact hz b off hin
   · intro ha
     have := hn ha
     rw [hps] at this
     simpa using this
   · intro p hp _
     rw [hps]
     simpa using hp
theorem zi3 (hl : laidOutB P = true) {W W' : World} (hb : Below W.heap.size W W') {sp : Nat -> Bool} :
   ∀ {ts : List TypeId} {vs : List Value} {ds : List (DataW H)} {ps : List MemPlace}, (∀ t ∈ ts, P.readableRec t = true /\ t < P.types.size) ->
   DataW.TrodAll enc P W 0 (fun _ => true) true ts vs ds ps -> (∀ x ∈ ps, x.block < W.heap.size) -> (∀ x ∈ ps, sp x.block = true) -> DataW.TrodAll enc P W' 0 sp true ts vs ds ps
 | [], [], [], _, _, h, _, _ => h
 | _ :: _, _ :: _, _ :: _, _, hr, ⟨p, q, h1, h2, e⟩, hlt, hs =>
   ⟨p, q, WideElems.Trod_stays hl (hr _ (List.mem_cons.2 (Or.inl rfl))).1 (hr _ (List.mem_cons.2 (Or.inl rfl))).2 h1
       (fun x hx => hb.same (hlt x (by rw [e]; exact List.mem_append_left _ hx))) (fun x hx => hs x (by rw [e]; exact List.mem_append_left _ hx)),
     zi3 hl hb (fun t ht => hr t (List.mem_cons.2 (Or.inr ht))) h2 (fun x hx => hlt x (by rw [e]; exact List.mem_append_right _ hx)) (fun x hx => hs x (by rw [e]; exact List.mem_append_right _ hx)), e⟩
theorem post_law {f : Func} {s : ChangeSpec} {apart fresh handsOn again : Bool} {W W' : World} {args : Array Value} {ds : List (DataW H)} {before : List MemPlace} {tb : TypeId}
   (hl : laidOutB P = true) (hr : (f.params.toList.all fun t => P.readableRec t && decide (t < P.types.size)) = true) (hbt : f.resultTypes = #[tb]) (hub : P.underlying tb = some .bool) (hsv : s.vars = [])
   (hW : DataW.Whole enc P f.params.toList s.vars apart W args.toList ds [] before)
   (hfn : s.fn H (ds ++ []) = { results := [.lit (.bool true)], args := ds }) (hb : Below W.heap.size W W') :
   s.post enc P f apart fresh handsOn again W args (.bool true) W' := by
 have hlt : ∀ p ∈ before, p.block < W.heap.size := fun p hp => hW.lt p hp
 obtain ⟨p, q, hA, hV, hpq, _, _⟩ := id hW
 rw [hsv] at hV
 have hq : q = [] := hV
 subst hq
 rw [List.append_nil] at hpq
 subst hpq
 refine zp0 (pa := before) (pv := []) hW ?_ ?_ ?_ (by simp) hb ?_
 · intro _ _ _
   rw [hfn, hbt]
   exact trodAll_mk1 (shut_bool hub true)
 · intro sp hsp
   rw [hfn]
   exact zi3 hl hb (fun t ht => by simpa using List.all_eq_true.1 hr t ht) hA hlt hsp
 · intro sp _
   rw [hfn, hsv]
   rfl
 · exact ok_one hbt rfl (okWide_bool_mk hub true)
end
end Go.Proofs.YtogpolfhcbgcbaaGreatDoor
namespace Go.Proofs.YtogpolfhcbgcbaaGreatDoor
open Go.RowKit
theorem i5 : (Tryz.prog.info? 5).map (fun i => (i.zero, i.size, i.bytes)) = some (some (.int .u8 0), 1, 1) := by kernel_rfl
def cl8 (k : Int) : Nat := (min (max k 0) 8).toNat
def zt8 (n : Nat) : Nat -> List UInt8
 | 0 => []
 | i+1 => UInt8.ofNat (n / 256^i) :: zt8 n i
theorem yv9 (k : Int) : cl8 k <= 8 := by unfold cl8; omega
theorem zt7 (n c : Nat) : (zt8 n c).length = c := by induction c <;> simp_all [zt8]
theorem yik (n c t : Nat) (h : t < (zt8 n c).length) : (zt8 n c)[t] = UInt8.ofNat (n / 256 ^ (c - 1 - t)) := by
 induction c generalizing t with
 | zero => simp [zt8] at h
 | succ c ih =>
   rcases t with _ | t
   · simp [zt8]
   · simp only [zt8, List.getElem_cons_succ]
     rw [ih]
     congr 3; omega
set_option maxRecDepth 100000 in
set_option maxHeartbeats 400000 in
theorem yo9 (n : Nat) (k : Int) (w : World) (_hn : n < 18446744073709551616) :
   Calls Tryz.prog 138 #[.int .u64 n, .int .i64 k] w fun e w' => e = .returned (.string ⟨(zt8 n (cl8 k)).toArray⟩) /\ Below w.heap.size w w' := by
 have h8 := yv9 k
 have hmk := fun W => run_make_row' (P := Tryz.prog) 94 5 (.int .u8 0) 1 Tryz.underlying94 i5 rfl .i64 .i64 (cl8 k) (by omega) (by omega) W
 go_enter Tryz.func138, Tryz.ntmps138
 go_upto_region 1 with (fail)
 go_cut [1] (fun v wx => v = .int .i64 (cl8 k) /\ w = wx)
 case first =>
   go_wp2
   all_goals (go_meet; exact ⟨by unfold cl8; go_num, rfl⟩)
 case rest =>
   obtain ⟨rfl, rfl⟩ := hcut
   generalize hc : cl8 k = c at *
   have Hc := Lib.hid hc
   clear hc
   go_wp2
   go_loopw [0, 6] (fun m i wr => ∃ j x : Nat, j <= c /\ i = .int .i64 ((j : Int) - 1) /\ m = .int .u64 (x : Int) /\ Hid (x = n / 256 ^ (c - j)) /\
      wr.rowIs w.heap.size 5 c (fun t => if t < j then .int .u8 0 else zmm (UInt8.ofNat (n / 256 ^ (c - 1 - t)))) /\ Below w.heap.size w wr) (fun _ i _ => (intOf i + 1).toNat)
   case atStart =>
     refine ⟨c, n, by omega, by simp, by simp, Lib.hid (by simp), ?_, ?_⟩
     · exact (World.rowIs_made w (.int .u8 0) c 5).congr (fun i hi => by simp [hi])
     · exact (Below.refl _ _).alloc (Nat.le_refl _) _
   case round =>
     obtain ⟨j, x, hj, rfl, rfl, hx, hrow, hb⟩ := hrel
     rcases j with _ | j
     · have hconv := fun cc => yl2 (P := Tryz.prog) (src := 94) (dst := 9) (cap := cc) (zt8 n c) Tryz.underlying94 Tryz.underlying5 Tryz.underlying9 hrow (zt7 n c) (fun i hi => by simp [yik])
       go_wp2
       go_ret
       exact ⟨yco (by rw [Hc.out]), hb⟩
     · have hc := hrow.cell (i := j) (by omega)
       have hf := hrow.frozen j
       have hs := hrow.set j (.int .u8 ((x : Int) % 256))
       have hB := hb.setCell (p := ⟨w.heap.size, j, none⟩) (Nat.le_refl _) (.int .u8 ((x : Int) % 256))
       have h0 : ((j + 1 : Nat) : Int) - 1 = j := by omega
       rw [h0]
       simp only [Nat.lt_succ_self, if_true] at hc
       clear hrow hb h0
       go_wp2
       go_roundw
       case rel =>
         refine ⟨j, x / 256, by omega, rfl, rfl, Lib.hid ?_, hs.congr fun t ht => ?_, hB⟩
         · rw [hx.out, Nat.div_div_eq_div_mul, <- Nat.pow_succ]; congr 2; omega
         · by_cases h1 : t = j
           · subst h1; rw [if_pos rfl, if_neg (by omega), zhx, hx.out, show c - (t + 1) = c - 1 - t by omega]
           · rw [if_neg h1]
             by_cases h2 : t < j
             · rw [if_pos h2, if_pos (by omega)]
             · rw [if_neg h2, if_neg (by omega)]
       case measure => simp [intOf] <;> omega
def zdo (n : Nat) : List UInt8 := if n < 128 then [UInt8.ofNat n] else UInt8.ofNat (n % 128 + 128) :: zdo (n / 128)
termination_by n
decreasing_by omega
theorem zbg {n : Nat} (h : n < 128) : zdo n = [UInt8.ofNat n] := by rw [zdo, if_pos h]
theorem zgy {n : Nat} (h : 128 <= n) : zdo n = UInt8.ofNat (n % 128 + 128) :: zdo (n / 128) := by rw [zdo, if_neg (by omega)]
theorem yxa (x : Nat) : bits .or .u8 ((x : Int) % 256) 128 = (x : Int) % 128 + 128 := by
 have h := u8_or_nat (x % 256) 128 (by omega) (by omega)
 have h2 : x % 256 ||| 128 = x % 128 + 128 := by
   have e1 : x % 256 = x % 128 + x / 128 % 2 * 128 := by omega
   have h3 : x / 128 % 2 = 0 \/ x / 128 % 2 = 1 := by omega
   have j1 : ∀ y, y < 128 -> 128 ||| y = 128 + y := fun y hy => nat_join 7 128 y (by decide) hy
   have e2 : ∀ y, y < 128 -> (y + 128) ||| 128 = y + 128 := fun y hy => by
     rw [Nat.add_comm y 128, <- j1 y hy, Nat.or_comm 128 y, Nat.or_assoc, Nat.or_self]
   rcases h3 with h3 | h3
   · rw [e1, h3, Nat.or_comm]; simp only [Nat.zero_mul, Nat.add_zero]; rw [j1 _ (by omega)]; omega
   · rw [e1, h3, Nat.one_mul, e2 _ (by omega)]
 rw [h2] at h
 have e : (((x % 256 : Nat) : Int)) = (x : Int) % 256 := by omega
 rw [e] at h
 rw [show ((128 : Nat) : Int) = 128 from rfl] at h
 rw [h]; omega
set_option maxRecDepth 100000 in
set_option maxHeartbeats 400000 in
theorem ybn (n : Nat) (w : World) (hn : n < 18446744073709551616) :
   Calls Tryz.prog 137 #[.int .u64 n] w fun e w' => e = .returned (.string ⟨(zdo n).toArray⟩) /\ Below w.heap.size w w' := by
 go_enter Tryz.func137, Tryz.ntmps137
 go_wp2
 refine zms 0 (fun a' w' => Below w.heap.size w w' /\ ∃ (x k : Nat) (v : Value) (pre : List UInt8), Hid (pre ++ zdo x = zdo n) /\ x < 18446744073709551616 /\ k <= 10 /\ Hid (x * 128 ^ k <= n) /\ w'.ownsRow w.heap.size 5 1 v k (pre.map zmm) /\ ∃ u1 u2 u4 u5 u6 u7 u8 u9 u10 u11 u12 u13 u14 u15 u16 u17 u18 u19 : Value, a' = ⟨#[.int .u64 (x : Int), u1, u2, v, u4, u5, u6, u7, u8, u9, u10, u11, u12, u13, u14, u15, u16, u17, u18, u19], []⟩) (fun a' _ => (intOf (a'.tmps.getD 0 undef)).toNat) rfl ?_ ?_
 · rintro a' wr ⟨hb, x, k, v, pre, hpre, hx, hk, hxk, hown, u1, u2, u4, u5, u6, u7, u8, u9, u10, u11, u12, u13, u14, u15, u16, u17, u18, u19, rfl⟩
   have hor := yxa x
   have hsz := hb.size
   by_cases hlt : x < 128
   · have hx8 : ∀ w1 : World, ∀ v1, w1.ownsRow w.heap.size 5 1 v1 (k + 1) (List.map zmm pre ++ [Value.int .u8 (x : Int)]) -> (convert 94 9 v1).run Tryz.prog w1 = .ok (.string ⟨(pre ++ [UInt8.ofNat x]).toArray⟩) w1 := fun w1 v1 h =>
       zzx (P := Tryz.prog) (src := 94) (dst := 9) (e := 5) Tryz.underlying94 Tryz.underlying5 Tryz.underlying9 (pre ++ [UInt8.ofNat x]) (by
         have e : (Value.int .u8 (x : Int)) = zmm (UInt8.ofNat x) := by rw [zhx]; go_num
         rw [List.map_append, List.map_singleton, <- e]; exact h)
     have Hx8 := Lib.hid hx8
     clear hx8
     go_wp2_with (at_builtin; refine zky _ rfl _ _ 94 rfl w.heap.size 5 (.int .u8 0) 1 Tryz.underlying94 i5 rfl _ _ _ rfl hown _ rfl rfl (by omega) (by omega) hsz ?_; intro v1 w1 hown1 hb1; have hcv := Hx8.out w1 v1 hown1; clear hown1 hown hor)
     go_ret
     exact ⟨yco (by rw [<- hpre.out, zbg hlt]), hb.trans (by assumption)⟩
   · go_wp2_with (at_builtin; refine zky _ rfl _ _ 94 rfl w.heap.size 5 (.int .u8 0) 1 Tryz.underlying94 i5 rfl _ _ _ rfl hown _ rfl rfl (by omega) (by omega) hsz ?_; intro v1 w1 hown1 hb1)
     go_step3
     have h128 : 128 * 128 ^ k <= n := Nat.le_trans (Nat.mul_le_mul_right _ (by omega)) hxk.out
     have hk9 : k + 1 <= 10 := by
       refine Decidable.byContradiction fun h => ?_
       have : 128 ^ 10 <= 128 ^ k := Nat.pow_le_pow_right (by decide) (by omega)
       have h3 : (128 : Nat) ^ 10 = 1180591620717411303424 := by decide
       omega
     exact ⟨rfl, ⟨hb.trans hb1, x / 128, k + 1, v1, pre ++ [UInt8.ofNat (x % 128 + 128)], Lib.hid (by rw [List.append_assoc, <- hpre.out, zgy (n := x) (by omega)]; rfl), by omega, hk9, Lib.hid (by
       rw [Nat.pow_succ]; have h4 : x / 128 * (128 ^ k * 128) <= x * 128 ^ k := by
         rw [Nat.mul_comm (128 ^ k) 128, <- Nat.mul_assoc]; exact Nat.mul_le_mul_right _ (by omega)
       exact Nat.le_trans h4 hxk.out), by
       rw [List.map_append, List.map_singleton, zhx]; rw [show (((x % 128 + 128 : Nat) : Int) % 256) = (x : Int) % 128 + 128 by omega]; exact hown1, _, _, _, _, _, _, _, _, _, _, _, _, _, _, _, _, _, _, rfl⟩, by simp [intOf]; omega⟩
 · intro hP
   go_wp2
   go_step3
   simp only [Exit.then]
   apply_assumption
   exact hP.out _ _ ⟨Below.refl _ _, n, 0, _, [], Lib.hid rfl, hn, by omega, Lib.hid (by simp), World.ownsRow_nil _ _ _ _, _, _, _, _, _, _, _, _, _, _, _, _, _, _, _, _, _, _, rfl⟩
end Go.Proofs.YtogpolfhcbgcbaaGreatDoor
namespace Go.Proofs.YtogpolfhcbgcbaaGreatDoor
open Go.RowKit
def Parts (w : World) (g : Nat) (ps : List (List UInt8)) : Prop := ∀ j (h : j < ps.length), w.cell? ⟨g, j, none⟩ = some (.string ⟨ps[j].toArray⟩)
def yal (ps : List (List UInt8)) : List UInt8 := ps.flatten
end Go.Proofs.YtogpolfhcbgcbaaGreatDoor
namespace Go.Proofs.YtogpolfhcbgcbaaGreatDoor
namespace Sy
open Go Go.RowKit
set_option maxRecDepth 100000
def putZ (e n : Int) : List UInt8 := zt8 e.toNat (cl8 n)
def yoa (e n : Int) : Prop := 0 <= e /\ e < 18446744073709551616 /\ -9223372036854775808 <= n /\ n <= 9223372036854775807
def upto (n : Nat) (l : List UInt8) : Prop := l.length <= n
def yij (L : zab) : zbb := (138, fun xs => match xs with | [.int .u64 e, .int .i64 n] => some (L2 L yoa e n, .str (L2 L putZ e n)) | _ => none)
theorem yp6 (k : IntKind) (n : Int) : ∀ h D, R h D zav (.int k n) (.int k n) := fun _ _ => .int k n
theorem znp {e : Int} (h : 0 <= e) : ∃ n : Nat, e = n := ⟨e.toNat, by omega⟩
theorem zvj : zay Tryz.prog (yij std) := by
 intro xs p r h hp
 dsimp only [yij] at h |-
 split at h <;> cases h
 rename_i e n
 obtain ⟨h0, h1, h2, h3⟩ : yoa e n := hp
 obtain ⟨k, rfl⟩ := znp h0
 exact zej (fn := Tryz.f138) rfl rfl (by kernel_rfl) (yab (ze7 _ _) (ze7 _ _)) (fun h D => yhm h D _ _) (fun w => yo9 k n w (by omega))
end Sy
end Go.Proofs.YtogpolfhcbgcbaaGreatDoor
namespace Go.Proofs.YtogpolfhcbgcbaaGreatDoor
namespace Sy
open Go Go.RowKit
set_option maxRecDepth 100000
set_option linter.unusedSimpArgs false
set_option linter.unusedVariables false
def zaf (c : UInt8) : List UInt8 -> List (List UInt8)
 | [] => [[]]
 | x :: s => if x = c then [] :: zaf c s else match zaf c s with
   | y :: r => (x :: y) :: r
   | [] => [[x]]
theorem zdh (c : UInt8) : ∀ s, zaf c s ≠ []
 | [] => by simp [zaf]
 | x :: s => by
   unfold zaf
   split
   · simp
   · split <;> simp
theorem zi6 {c : UInt8} : ∀ {s : List UInt8} {m : Nat}, (∀ k, k < m -> s[k]? ≠ some c) -> s[m]? = some c -> zaf c s = s.take m :: zaf c (s.drop (m + 1))
 | [], m, _, h => by simp at h
 | x :: s, 0, _, h => by
   simp at h; subst h
   simp [zaf]
 | x :: s, m + 1, h0, h => by
   have hx : x ≠ c := by
     have := h0 0 (by omega)
     intro e; subst e; simp at this
   have ih := zi6 (s := s) (m := m) (fun k hk => by have := h0 (k + 1) (by omega); simpa using this) (by simpa using h)
   rw [zaf, if_neg hx, ih]
   simp
theorem zf0 {c : UInt8} : ∀ {s : List UInt8}, (∀ k : Nat, s[k]? ≠ some c) -> zaf c s = [s]
 | [], _ => rfl
 | x :: s, h0 => by
   have hx : x ≠ c := by
     have := h0 0
     intro e; subst e; simp at this
   have ih := zf0 (s := s) (fun k => by have := h0 (k + 1); simpa using this)
   rw [zaf, if_neg hx, ih]
theorem zap (c : UInt8) : ∀ s : List UInt8, (zaf c s).length = s.count c + 1
 | [] => by simp [zaf]
 | x :: s => by
   have ih := zap c s
   unfold zaf
   by_cases hx : x = c
   · rw [if_pos hx, List.length_cons, ih, hx, List.count_cons_self]
   · rw [if_neg hx, List.count_cons_of_ne (fun e => hx e)]
     cases hs : zaf c s with
     | nil => exact absurd hs (zdh c s)
     | cons y r => rw [hs] at ih; simpa using ih
theorem yep {s : List UInt8} {c : UInt8} (h : Lib.indexByte s c < 0) : ∀ k : Nat, s[k]? ≠ some c := by
 have := Lib.indexByte_ge s c
 exact Lib.indexByte_none (by omega)
theorem zrj {s : List UInt8} {c : UInt8} (h : ¬ Lib.indexByte s c < 0) : s[(Lib.indexByte s c).toNat]? = some c /\ (∀ k, k < (Lib.indexByte s c).toNat -> s[k]? ≠ some c) /\ (Lib.indexByte s c).toNat < s.length := by
 obtain ⟨o, ho⟩ : ∃ o : Nat, Lib.indexByte s c = o := ⟨(Lib.indexByte s c).toNat, by omega⟩
 have h1 := Lib.indexByte_some ho
 have e : (Lib.indexByte s c).toNat = o := by omega
 rw [e]
 exact ⟨h1.1, h1.2, (List.getElem?_eq_some_iff.1 h1.1).1⟩
theorem yu6 (s : List UInt8) (c : UInt8) : -1 <= Lib.indexByte s c /\ Lib.indexByte s c <= s.length := by
 have h0 := Lib.indexByte_ge s c
 by_cases h : Lib.indexByte s c < 0
 · omega
 · have := (zrj h).2.2; omega
def by1 (sep : List UInt8) : UInt8 := sep.headD 0
def zp4 (sep : List UInt8) : Prop := sep.length = 1
theorem ztj {sep : List UInt8} (h : zp4 sep) : sep = [by1 sep] := by
 match sep, h with
 | [c], _ => rfl
def zg7 (s sep : List UInt8) : Int := Lib.indexByte s (by1 sep)
def zq4 (s sep : List UInt8) : Int := s.count (by1 sep)
def za9 (s sep : List UInt8) : List (List UInt8) := zaf (by1 sep) s
def ye5 (l : List (List UInt8)) : Nat := l.length
def yxk (L : zab) (l : List (List UInt8)) : AV := .lst 1 (L ye5 l) (fun i _ => .str (L2 L zc1 l i))
def yjy (L : zab) : zbb := (54, fun xs => match xs with | [.str s, .str sep] => some (L zp4 sep, .int .i64 (L2 L zg7 s sep)) | _ => none)
def ypf (L : zab) : zbb := (70, fun xs => match xs with | [.str s, .str sep] => some (L zp4 sep, .int .i64 (L2 L zg7 s sep)) | _ => none)
def yfv (L : zab) : zbb := (30, fun xs => match xs with | [.str s, .str sep] => some (L zp4 sep, .int .i64 (L2 L zq4 s sep)) | _ => none)
theorem zws : zay Tryz.prog (yjy std) := by
 intro xs p r h hp
 dsimp only [yjy] at h |-
 split at h <;> cases h
 try simp only [L2, L3, std] at hp |-
 rename_i s sep
 have h1 := ztj (show zp4 sep from hp)
 rw [h1]
 refine zej (fn := Tryz.f54) rfl rfl (by kernel_rfl) (yab (zcw _) (zcw _)) (yp6 _ _) (fun w => (Tryz.strings_Index_one ⟨s.toArray⟩ (by1 sep) w).mono ?_)
 rintro e w' ⟨rfl, rfl⟩
 exact ⟨rfl, Below.refl _ _⟩
theorem yk1 : zay Tryz.prog (ypf std) := by
 intro xs p r h hp
 dsimp only [ypf] at h |-
 split at h <;> cases h
 try simp only [L2, L3, std] at hp |-
 rename_i s sep
 have h1 := ztj (show zp4 sep from hp)
 rw [h1]
 refine zej (fn := Tryz.f70) rfl rfl (by kernel_rfl) (yab (zcw _) (zcw _)) (yp6 _ _) (fun w => (Tryz.stringslite_Index_one ⟨s.toArray⟩ (by1 sep) w).mono ?_)
 rintro e w' ⟨rfl, rfl⟩
 exact ⟨rfl, Below.refl _ _⟩
theorem zq3 : zay Tryz.prog (yfv std) := by
 intro xs p r h hp
 dsimp only [yfv] at h |-
 split at h <;> cases h
 try simp only [L2, L3, std] at hp |-
 rename_i s sep
 have h1 := ztj (show zp4 sep from hp)
 rw [h1]
 refine zej (fn := Tryz.f30) rfl rfl (by kernel_rfl) (yab (zcw _) (zcw _)) (yp6 _ _) (fun w => (Tryz.strings_Count_one ⟨s.toArray⟩ (by1 sep) w).mono ?_)
 rintro e w' ⟨rfl, rfl⟩
 exact ⟨rfl, Below.refl _ _⟩
def ykx (s sep : List UInt8) : List UInt8 := if zg7 s sep < 0 then s else s.take (zg7 s sep).toNat
def yfr (s sep : List UInt8) : List UInt8 := if zg7 s sep < 0 then [] else s.drop ((zg7 s sep).toNat + 1)
def yv6 (s sep : List UInt8) : Bool := decide (0 <= zg7 s sep)
def yfp (L : zab) : zbb := (147, fun xs => match xs with | [.str s, .str sep] => some (L zp4 sep /\ L2 L upto 1000000000 s, .tup [.str (L2 L ykx s sep), .str (L2 L yfr s sep), .bool (L2 L yv6 s sep)]) | _ => none)
def yqk (L : zab) : zbb := (139, fun xs => match xs with | [.str s, .str sep] => some (L zp4 sep /\ L2 L upto 1000000000 s, .tup [.str (L2 L ykx s sep), .str (L2 L yfr s sep), .bool (L2 L yv6 s sep)]) | _ => none)
theorem yfq : zay Tryz.prog (yfp std) := by
 intro xs p r h hp
 dsimp only [yfp] at h |-
 split at h <;> cases h
 try simp only [L2, L3, std] at hp |-
 rename_i s sep
 obtain ⟨p1, p2⟩ : zp4 sep /\ s.length <= 1000000000 := hp
 refine zaa (T := tt) (S := fun L => zam [ypf L]) (lo := noA) (lb := noA) 5 (fn := Tryz.f147) rfl rfl (by kernel_rfl) (by kernel_rfl) rfl zac (za2 ⟨yk1, trivial⟩) (by kernel_rfl) ?_
 (intro L P1 Q1 hL hP hQ; cbv; subst hL; simp only [L2, L3, std, syT]; subst hQ)
 (simp only [syS, reduceCtorEq, Int.reduceToNat, Int.reduceAdd, Int.reduceSub])
 have hl := yu6 s (by1 sep)
 refine ⟨p1, fun h => ?_, fun h => ?_⟩
 · have := (zrj (c := by1 sep) (s := s) (by show ¬ zg7 s sep < 0; omega)).2.2
   have e0 : ¬ zg7 s sep < 0 := by omega
   have e1 : (sep.length : Int) = 1 := by rw [p1]; rfl
   have hl : -1 <= zg7 s sep /\ zg7 s sep <= s.length := hl
   have this : (zg7 s sep).toNat < s.length := this
   rw [e1, show (zg7 s sep + 1 + 9223372036854775808) % 18446744073709551616 - 9223372036854775808 = zg7 s sep + 1 by omega]
   refine ⟨by omega, by omega, (if_neg e0).symm, ?_, (decide_eq_true h).symm⟩
   rw [yfr, if_neg e0, show (zg7 s sep + 1).toNat = (zg7 s sep).toNat + 1 by omega]
 · exact ⟨(if_pos (by omega)).symm, (if_pos (by omega)).symm, (decide_eq_false (by omega)).symm⟩
theorem yku : zay Tryz.prog (yqk std) := by
 intro xs p r h hp
 dsimp only [yqk] at h |-
 split at h <;> cases h
 try simp only [L2, L3, std] at hp |-
 rename_i s sep
 obtain ⟨p1, p2⟩ : zp4 sep /\ s.length <= 1000000000 := hp
 refine zaa (T := tt) (S := fun L => zam [yfp L]) (lo := noA) (lb := noA) 5 (fn := Tryz.f139) rfl rfl (by kernel_rfl) (by kernel_rfl) rfl zac (za2 ⟨yfq, trivial⟩) (by kernel_rfl) ?_
 (intro L P1 Q1 hL hP hQ; cbv; subst hL; simp only [L2, L3, std, syT]; subst hQ)
 (simp only [syS, reduceCtorEq, Int.reduceToNat, Int.reduceAdd, Int.reduceSub])
 exact ⟨p1, p2⟩
def zet (c : UInt8) (s : List UInt8) : Nat -> List UInt8
 | 0 => s
 | i + 1 => (zet c s i).drop ((Lib.indexByte (zet c s i) c).toNat + 1)
theorem zdu (c : UInt8) (s : List UInt8) : ∀ i, i <= s.count c -> zaf c (zet c s i) = (zaf c s).drop i /\ (zet c s i).length <= s.length
 | 0, _ => by simp [zet]
 | i + 1, h => by
   obtain ⟨ih, hl⟩ := zdu c s i (by omega)
   have hlen := congrArg List.length ih
   rw [zap, List.length_drop, zap] at hlen
   have hn : ¬ Lib.indexByte (zet c s i) c < 0 := by
     intro hn
     have h0 := zf0 (yep hn)
     have := congrArg List.length h0
     rw [zap] at this
     simp at this
     omega
   obtain ⟨h1, h2, h3⟩ := zrj hn
   have e := zi6 h2 h1
   rw [ih] at e
   have e2 := congrArg (List.drop 1) e
   rw [List.drop_drop, List.drop_succ_cons, List.drop_zero] at e2
   refine ⟨by rw [zet, <- e2], ?_⟩
   rw [zet, List.length_drop]; omega
theorem zgc {c : UInt8} {s : List UInt8} {i : Nat} (h : i < s.count c) : 0 <= Lib.indexByte (zet c s i) c /\ (Lib.indexByte (zet c s i) c).toNat < (zet c s i).length /\ zc1 (zaf c s) i = (zet c s i).take (Lib.indexByte (zet c s i) c).toNat := by
 obtain ⟨ih, hl⟩ := zdu c s i (by omega)
 have hlen := congrArg List.length ih
 rw [zap, List.length_drop, zap] at hlen
 have hn : ¬ Lib.indexByte (zet c s i) c < 0 := by
   intro hn
   have h0 := zf0 (yep hn)
   have := congrArg List.length h0
   rw [zap] at this
   simp at this
   omega
 obtain ⟨h1, h2, h3⟩ := zrj hn
 refine ⟨by omega, h3, ?_⟩
 have e := zi6 h2 h1
 rw [ih] at e
 have hlt : i < (zaf c s).length := by rw [zap]; omega
 rw [zc1, List.getD_eq_getElem?_getD, List.getElem?_eq_getElem hlt]
 rw [List.drop_eq_getElem_cons hlt] at e
 exact (List.cons.inj e).1
theorem zqw (c : UInt8) (s : List UInt8) : zc1 (zaf c s) (s.count c) = zet c s (s.count c) := by
 obtain ⟨ih, hl⟩ := zdu c s (s.count c) (Nat.le_refl _)
 have hlen := congrArg List.length ih
 rw [zap, List.length_drop, zap] at hlen
 have hc : (zet c s (s.count c)).count c = 0 := by omega
 have h0 : zaf c (zet c s (s.count c)) = [zet c s (s.count c)] := zf0 (fun k hk => by
   have := List.count_pos_iff.2 (List.mem_of_getElem? hk)
   omega)
 rw [h0] at ih
 have hlt : s.count c < (zaf c s).length := by rw [zap]; omega
 rw [zc1, List.getD_eq_getElem?_getD, List.getElem?_eq_getElem hlt]
 rw [List.drop_eq_getElem_cons hlt] at ih
 exact (List.cons.inj ih).1.symm
def zcc (s sep : List UInt8) (i : Nat) : List UInt8 := zet (by1 sep) s i
def zme (s sep : List UInt8) (i j : Nat) : List UInt8 := if j < i then zc1 (za9 s sep) j else []
def cntB (s sep : List UInt8) : Nat := s.count (by1 sep)
theorem zo9 (s sep : List UInt8) : cntB s sep <= s.length := List.count_le_length
def splA (L : zab) (s sep : List UInt8) : Nat -> St -> Option Ann := fun id st => match id with
 | 0 => some ⟨Nat, fun i => [(0, .str (L3 L zcc s sep i)), (10, .int .i64 (L za7 i)), (9, .sl 900 1 0 (L (fun n : Nat => n + 1) (L2 L cntB s sep))), (3, .int .i64 (L za7 (L2 L cntB s sep)))],
     fun i => [(900, .row 9 1 (L (fun n : Nat => n + 1) (L2 L cntB s sep)) (fun j _ => .str (L (L3 L zme s sep i) j)))], [1, 2], [],
     fun i => L3 L (fun s sep i => i <= cntB s sep) s sep i, fun i => L3 L (fun s sep i => cntB s sep - i) s sep i⟩
 | _ => none
theorem zvr (q : Nat) (v : List UInt8) (f : Nat -> List UInt8) (i j : Nat) (h : j < 1) : over std q 0 1 [.str v] (fun i _ => .str (f i)) i j = .str (if i = q then v else f i) := by
 have : j = 0 := by omega
 subst this
 rw [zgz, if_pos ⟨Nat.le_refl _, by omega⟩]
 by_cases h : i = q
 · subst h; simp [za6, zhc, L3, std, zbn]
 · simp [zan h, zhc, L3, std, zbn, h]
def nev (f : Nat) : zbb := (f, fun _ => some (False, .dead))
theorem zw3 (f : Nat) : zay Tryz.prog (nev f) := by
 intro xs p r h hp
 cases h
 exact hp.elim
def ypo (L : zab) : zbb := (72, fun xs => match xs with
 | [.str s, .str sep, .int .i64 a, .int .i64 b] => some (L zp4 sep /\ L2 L upto 1000000000 s /\ L2 L (fun a b : Int => a = 0 /\ b = -1) a b, yxk L (L2 L za9 s sep))
 | _ => none)
theorem yk8 : zay Tryz.prog (ypo std) := by
 intro xs p r h hp
 dsimp only [ypo] at h |-
 split at h <;> cases h
 try simp only [L2, L3, std] at hp |-
 rename_i s sep a b
 obtain ⟨p1, p2, rfl, rfl⟩ : zp4 sep /\ s.length <= 1000000000 /\ a = 0 /\ b = -1 := hp
 refine zaa (T := tt) (S := fun L => zam [yjy L, yfv L, nev 96]) (lo := fun L => splA L s sep) (lb := noA) 5 (fn := Tryz.f72) rfl rfl (by kernel_rfl) (by kernel_rfl) rfl zac (za2 ⟨zws, zq3, zw3 _, trivial⟩) (by kernel_rfl) ?_
 intro L P' Q' hL hP hQ
 (cbv; try simp only [syT, true_and, and_true])
 have hc : zq4 s sep = (cntB s sep : Int) := rfl
 have hle := zo9 s sep
 have hsep : sep ≠ [] := fun e => by rw [e] at p1; cases p1
 refine ⟨fun h => ?_, fun h1 => ⟨fun h => ?_, fun h2 => ⟨fun h3 => ⟨?_, ?_, ⟨0, ?_⟩, fun i hi => ?_⟩, fun h3 => ?_⟩⟩⟩
 · (subst hL; subst hQ; simp only [L2, L3, std] at *; try simp only [syS, reduceCtorEq, Int.reduceToNat, Int.reduceAdd, Int.reduceSub] at *)
 · (subst hL; subst hQ; simp only [L2, L3, std] at *; try simp only [syS, reduceCtorEq, Int.reduceToNat, Int.reduceAdd, Int.reduceSub] at *)
   exact absurd h hsep
 · (subst hL; subst hQ; simp only [L2, L3, std] at *; try simp only [syS, reduceCtorEq, Int.reduceToNat, Int.reduceAdd, Int.reduceSub] at *)
   exact p1
 · (subst hL; subst hQ; simp only [L2, L3, std] at *; try simp only [syS, reduceCtorEq, Int.reduceToNat, Int.reduceAdd, Int.reduceSub] at *)
   rw [hc]
   omega
 · (cbv; try simp only [syT, true_and, and_true])
   (subst hL; subst hQ; simp only [L2, L3, std] at *; try simp only [syS, reduceCtorEq, Int.reduceToNat, Int.reduceAdd, Int.reduceSub] at *)
   rw [hc, show min (((cntB s sep : Nat) + 1 + 9223372036854775808 : Int) % 18446744073709551616 - 9223372036854775808) (((s.length : Nat) + 1 + 9223372036854775808 : Int) % 18446744073709551616 - 9223372036854775808) = (cntB s sep : Nat) + 1 by omega]
   refine ⟨⟨by omega, fun k j hk hj => ?_⟩, by omega, by omega, rfl, Nat.zero_le _⟩
   rw [zme, if_neg (by omega)]
   match j, hj with
   | 0, _ => rfl
 · cbv at hi
   (cbv; try simp only [syT, true_and, and_true])
   refine ⟨fun h4 => ⟨?_, fun h5 => ?_, fun h5 => ⟨?_, ?_, ?_, i + 1, ?_⟩⟩, fun h4 => ⟨?_, ?_, ?_⟩⟩
   · (subst hL; subst hQ; simp only [L2, L3, std] at *; try simp only [syS, reduceCtorEq, Int.reduceToNat, Int.reduceAdd, Int.reduceSub] at *)
     exact p1
   · (subst hL; subst hQ; simp only [L2, L3, std] at *; try simp only [syS, reduceCtorEq, Int.reduceToNat, Int.reduceAdd, Int.reduceSub] at *)
     obtain ⟨r1, r2, r3⟩ := zgc (c := by1 sep) (s := s) (i := i) (show i < cntB s sep by omega)
     exfalso
     have h5 : Lib.indexByte (zet (by1 sep) s i) (by1 sep) < 0 := h5
     omega
   · (subst hL; subst hQ; simp only [L2, L3, std] at *; try simp only [syS, reduceCtorEq, Int.reduceToNat, Int.reduceAdd, Int.reduceSub] at *)
     obtain ⟨r1, r2, r3⟩ := zgc (c := by1 sep) (s := s) (i := i) (show i < cntB s sep by omega)
     obtain ⟨q1, q2⟩ := zdu (by1 sep) s i hi
     have r1 : 0 <= zg7 (zcc s sep i) sep := r1
     have r2 : (zg7 (zcc s sep i) sep).toNat < (zcc s sep i).length := r2
     have q2 : (zcc s sep i).length <= s.length := q2
     omega
   · (subst hL; subst hQ; simp only [L2, L3, std] at *; try simp only [syS, reduceCtorEq, Int.reduceToNat, Int.reduceAdd, Int.reduceSub] at *)
     omega
   · (subst hL; subst hQ; simp only [L2, L3, std] at *; try simp only [syS, reduceCtorEq, Int.reduceToNat, Int.reduceAdd, Int.reduceSub] at *)
     obtain ⟨r1, r2, r3⟩ := zgc (c := by1 sep) (s := s) (i := i) (show i < cntB s sep by omega)
     obtain ⟨q1, q2⟩ := zdu (by1 sep) s i hi
     have r1 : 0 <= zg7 (zcc s sep i) sep := r1
     have r2 : (zg7 (zcc s sep i) sep).toNat < (zcc s sep i).length := r2
     have q2 : (zcc s sep i).length <= s.length := q2
     have e1 : (sep.length : Int) = 1 := by rw [p1]; rfl
     omega
   · (cbv; try simp only [syT, true_and, and_true])
     (subst hL; subst hQ; simp only [L2, L3, std] at *; try simp only [syS, reduceCtorEq, Int.reduceToNat, Int.reduceAdd, Int.reduceSub] at *)
     obtain ⟨r1, r2, r3⟩ := zgc (c := by1 sep) (s := s) (i := i) (show i < cntB s sep by omega)
     obtain ⟨q1, q2⟩ := zdu (by1 sep) s i hi
     have r1 : 0 <= zg7 (zcc s sep i) sep := r1
     have r2 : (zg7 (zcc s sep i) sep).toNat < (zcc s sep i).length := r2
     have q2 : (zcc s sep i).length <= s.length := q2
     have e1 : (sep.length : Int) = 1 := by rw [p1]; rfl
     refine ⟨fun k j hk hj => ?_, by omega, ?_, by omega, by omega⟩
     · rw [zvr _ _ _ _ _ hj]
       congr 1
       by_cases hki : k = i
       · subst hki
         rw [if_pos rfl, zme, if_pos (by omega), show (zg7 (zcc s sep k) sep + 0 + 9223372036854775808) % 18446744073709551616 - 9223372036854775808 = zg7 (zcc s sep k) sep by omega]
         exact r3.symm
       · rw [if_neg hki, zme, zme]
         by_cases hlt : k < i
         · rw [if_pos hlt, if_pos (by omega)]
         · rw [if_neg hlt, if_neg (by omega)]
     · rw [e1, show ((zg7 (zcc s sep i) sep + 1 + 9223372036854775808) % 18446744073709551616 - 9223372036854775808).toNat = (zg7 (zcc s sep i) sep).toNat + 1 by omega]
       rfl
   · (subst hL; subst hQ; simp only [L2, L3, std] at *; try simp only [syS, reduceCtorEq, Int.reduceToNat, Int.reduceAdd, Int.reduceSub] at *)
     omega
   · (subst hL; subst hQ; simp only [L2, L3, std] at *; try simp only [syS, reduceCtorEq, Int.reduceToNat, Int.reduceAdd, Int.reduceSub] at *)
     omega
   · (subst hL; subst hQ; simp only [L2, L3, std] at *; try simp only [syS, reduceCtorEq, Int.reduceToNat, Int.reduceAdd, Int.reduceSub] at *)
     have hi' : i = cntB s sep := by omega
     subst hi'
     rw [show ((cntB s sep : Nat) + 1 + 9223372036854775808 : Int) % 18446744073709551616 - 9223372036854775808 = ((cntB s sep + 1 : Nat) : Int) by omega, Int.toNat_natCast]
     show zg4 (.lst 1 (zaf (by1 sep) s).length _) _
     rw [zeq, zap]
     refine ⟨rfl, fun k j hk hj => ?_⟩
     rw [zvr _ _ _ _ _ hj]
     congr 1
     by_cases hki : k = cntB s sep
     · rw [if_pos hki, hki]; exact (zqw _ _).symm
     · have hk : k < cntB s sep + 1 := hk
       rw [if_neg hki, zme, if_pos (by omega)]
       rfl
 · (subst hL; subst hQ; simp only [L2, L3, std] at *; try simp only [syS, reduceCtorEq, Int.reduceToNat, Int.reduceAdd, Int.reduceSub] at *)
   exact absurd h3 (by decide)
def yng (L : zab) : zbb := (57, fun xs => match xs with | [.str s, .str sep] => some (L zp4 sep /\ L2 L upto 1000000000 s, yxk L (L2 L za9 s sep)) | _ => none)
theorem yht : zay Tryz.prog (yng std) := by
 intro xs p r h hp
 dsimp only [yng] at h |-
 split at h <;> cases h
 try simp only [L2, L3, std] at hp |-
 rename_i s sep
 obtain ⟨p1, p2⟩ : zp4 sep /\ s.length <= 1000000000 := hp
 refine zaa (T := tt) (S := fun L => zam [ypo L]) (lo := noA) (lb := noA) 5 (fn := Tryz.f57) rfl rfl (by kernel_rfl) (by kernel_rfl) rfl zac (za2 ⟨yk8, trivial⟩) (by kernel_rfl) ?_
 (intro L P1 Q1 hL hP hQ; cbv; subst hL; simp only [L2, L3, std, syT]; subst hQ)
 (simp only [syS, reduceCtorEq, Int.reduceToNat, Int.reduceAdd, Int.reduceSub])
 refine ⟨⟨p1, p2⟩, ?_⟩
 show zg4 (.lst 1 (ye5 (za9 s sep)) _) _
 rw [zeq]
 exact ⟨rfl, fun i j hi hj => rfl⟩
def toS : AV -> List UInt8
 | .str s => s
 | _ => []
def ze9 (n : Nat) (get : Nat -> Nat -> AV) : List (List UInt8) := (List.range n).map fun i => toS (get i 0)
def jnZ (sep : List UInt8) (x : AV) : List UInt8 := match x with
 | .lst _ n get => Lib.join (ze9 n get) sep
 | _ => []
def yxr (sep : List UInt8) (x : AV) : Prop := match x with
 | .lst 1 n get => (∀ i, i < n -> ∃ s, get i 0 = .str s) /\ n <= 1000000 /\ (Lib.join (ze9 n get) sep).length <= 140737488355328
 | .nils => True
 | _ => False
def yxq (L : zab) : zbb := (143, fun xs => match xs with | [x, .str sep] => some (L2 L yxr sep x, .str (L2 L jnZ sep x)) | _ => none)
theorem yvk {h : Array Obj} {D : Nat -> Prop} {x y : AV} {vs : Array Value} (hr : RL h D zav [x, y] vs) : ∃ a b, vs = #[a, b] /\ R h D zav x a /\ R h D zav y b := by
 obtain ⟨hl, hr⟩ := hr
 obtain ⟨a, b, ha⟩ : ∃ a b, vs.toList = [a, b] := by
   have hl : vs.toList.length = 2 := by simpa using hl.symm
   match vs.toList, hl with
   | [a, b], _ => exact ⟨a, b, rfl⟩
 have : vs = #[a, b] := by rw [<- Array.toArray_toList (xs := vs), ha]
 subst this
 exact ⟨a, b, rfl, hr 0 x a rfl rfl, hr 1 y b rfl rfl⟩
theorem yp1 : zay Tryz.prog (yxq std) := by
 intro xs p r h hp
 dsimp only [yxq] at h |-
 split at h <;> cases h
 try simp only [L2, L3, std] at hp |-
 rename_i x sep
 have hp : yxr sep x := hp
 intro D w vs hD hxs hg
 obtain ⟨a, b, rfl, rx, ry⟩ := yvk hxs
 obtain rfl := yba ry
 unfold zek
 rw [zcv (fn := Tryz.f143) rfl (by kernel_rfl) rfl]
 have fin : ∀ (l : List UInt8), l = jnZ sep x -> (∀ w', Below w.heap.size w w' -> ∃ v D', Ending.returned (.string ⟨l.toArray⟩) = .returned v /\ Below w.heap.size w w' /\ (∀ b, D b -> D' b) /\ (∀ b, D' b -> D b \/ (w.heap.size <= b /\ b < w'.heap.size)) /\ R w'.heap D' zav (.str (jnZ sep x)) v) := by
   rintro l rfl w' hw
   exact ⟨_, D, rfl, hw, fun _ h => h, fun b hb => .inl hb, yhm _ _ _ _⟩
 have none_ : jnZ sep x = [] -> ∀ (a : Option Addr) (c : Nat), Calls Tryz.prog 143 #[.slice a 0 c, .string ⟨sep.toArray⟩] w fun e w' => ∃ v D', e = .returned v /\ Below w.heap.size w w' /\ (∀ b, D b -> D' b) /\ (∀ b, D' b -> D b \/ (w.heap.size <= b /\ b < w'.heap.size)) /\ R w'.heap D' zav (.str (jnZ sep x)) v := by
   intro h0 a c
   refine (Tryz.strings_Join_none a c ⟨sep.toArray⟩ w).mono ?_
   rintro e w' ⟨rfl, rfl⟩
   exact fin [] h0.symm _ (Below.refl _ _)
 unfold yxr at hp
 split at hp
 · rename_i n get _
   obtain ⟨h1, h2, h3⟩ := hp
   cases rx with
   | lst0 => exact none_ rfl _ _
   | lst _ _ _ b o cap us hD0 hc hv h1' hr =>
     have hl : (ze9 n get).length = n := by rw [ze9, List.length_map, List.length_range]
     have hq : ∀ j x, ((ze9 n get).map (fun s : List UInt8 => (⟨s.toArray⟩ : ByteArray)))[j]? = some x -> w.cell? ⟨b, o + j, none⟩ = some (.string x) := by
       intro j x hj
       have hjn : j < n := by
         have := (List.getElem?_eq_some_iff.1 hj).1
         rw [List.length_map, hl] at this
         exact this
       obtain ⟨s, hs⟩ := h1 j hjn
       have r := hr j 0 hjn (by omega)
       rw [hs] at r
       have hv := hv j 0 hjn (by omega)
       rw [yba r, Nat.mul_one, Nat.add_zero] at hv
       rw [zmj, hv]
       have e2 : (ze9 n get)[j]? = some s := by rw [ze9, List.getElem?_map, List.getElem?_range hjn, Option.map_some, hs]; rfl
       rw [List.getElem?_map, e2] at hj
       cases hj
       rfl
     have hm : ((ze9 n get).map (fun s : List UInt8 => (⟨s.toArray⟩ : ByteArray))).map (·.data.toList) = ze9 n get := by
       rw [List.map_map]
       exact List.map_id' _
     have := Tryz.strings_Join b o cap ((ze9 n get).map (fun s : List UInt8 => (⟨s.toArray⟩ : ByteArray))) ⟨sep.toArray⟩ w hq (hD b hD0) (by rw [List.length_map, hl]; omega) (by rw [List.length_map, hl]; exact hc) (by rw [hm]; exact h3)
     rw [hm, List.length_map, hl] at this
     refine this.mono ?_
     rintro e w' ⟨rfl, hw⟩
     exact fin _ rfl _ hw
 · cases rx
   exact none_ rfl _ _
 · exact hp.elim
def yjj (c : Int) : Bool := decide (97 <= c) && decide (c <= 122)
def yoh (c : Int) : Bool := yjj c || (decide (48 <= c) && decide (c <= 57))
def ydo (c : Int) : Bool := yoh c || (decide (c = 45) || decide (c = 95))
def zkm (L : zab) : zbb := (78, fun xs => match xs with
 | [.int .u8 c] => some (True, .bool (L yjj c))
 | _ => none)
theorem zly : zay Tryz.prog (zkm std) := by
 intro xs p r h hp
 dsimp only [zkm] at h |-
 split at h <;> cases h
 try simp only [L2, L3, std] at hp |-
 rename_i c
 refine zaa (T := tt) (S := noS) (lo := noA) (lb := noA) 5 (fn := Tryz.f78) rfl rfl (by kernel_rfl) (by kernel_rfl) rfl zac (zc2 _) (by kernel_rfl) ?_
 (intro L P1 Q1 hL hP hQ; cbv; subst hL; simp only [L2, L3, std, syT]; subst hQ)
 (simp only [syS, reduceCtorEq, Int.reduceToNat, Int.reduceAdd, Int.reduceSub])
 unfold yjj ile
 refine ⟨fun h => by simp [h], fun h => ?_⟩
 rw [decide_eq_false (by omega)]; rfl
def ztf (L : zab) : zbb := (79, fun xs => match xs with
 | [.int .u8 c] => some (True, .bool (L yoh c))
 | _ => none)
theorem zyu : zay Tryz.prog (ztf std) := by
 intro xs p r h hp
 dsimp only [ztf] at h |-
 split at h <;> cases h
 try simp only [L2, L3, std] at hp |-
 rename_i c
 refine zaa (T := tt) (S := fun L => zam [zkm L]) (lo := noA) (lb := noA) 5 (fn := Tryz.f79) rfl rfl (by kernel_rfl) (by kernel_rfl) rfl zac (za2 ⟨zly, trivial⟩) (by kernel_rfl) ?_
 (intro L P1 Q1 hL hP hQ; cbv; subst hL; simp only [L2, L3, std, syT]; subst hQ)
 (simp only [syS, reduceCtorEq, Int.reduceToNat, Int.reduceAdd, Int.reduceSub])
 unfold yoh ile
 refine ⟨fun h => by simp [h], fun h => ⟨fun h2 => by simp [h, h2], fun h2 => ?_⟩⟩
 rw [h, decide_eq_false (show ¬ 48 <= c by omega)]; rfl
def yaq (f : Int -> Bool) (s : List UInt8) : Bool := s.all fun b => f (b.toNat : Int)
def zpr (f : Int -> Bool) (s : List UInt8) (i : Nat) : Prop := i <= s.length /\ ∀ k, k < i -> f (zae s k) = true
def toC (s : List UInt8) (i : Nat) : Nat := s.length - i
theorem zfd {s : List UInt8} {i : Nat} (h : i < s.length) : zae s i = (s[i].toNat : Int) := by
 rw [zae, List.getD_eq_getElem?_getD, List.getElem?_eq_getElem h]; rfl
theorem yf6 (f : Int -> Bool) (s : List UInt8) : zpr f s 0 := ⟨Nat.zero_le _, fun k hk => by omega⟩
theorem zo3 {f : Int -> Bool} {s : List UInt8} {i : Nat} (h : zpr f s i) (hi : i < s.length) (hf : f (zae s i) = true) : zpr f s (i + 1) :=
 ⟨hi, fun k hk => by
   by_cases e : k = i
   · rw [e]; exact hf
   · exact h.2 k (by omega)⟩
theorem ziv {f : Int -> Bool} {s : List UInt8} {i : Nat} (h : zpr f s i) (hi : s.length <= i) : yaq f s = true := by
 unfold yaq
 rw [List.all_eq_true]
 intro b hb
 obtain ⟨k, hk, rfl⟩ := List.getElem_of_mem hb
 have := h.2 k (by omega)
 rw [zfd hk] at this
 exact this
theorem zq8 {f : Int -> Bool} {s : List UInt8} {i : Nat} (hi : i < s.length) (hf : f (zae s i) = false) : yaq f s = false := by
 unfold yaq
 rw [List.all_eq_false]
 refine ⟨s[i], List.getElem_mem hi, ?_⟩
 rw [zfd hi] at hf
 simp [hf]
def zr5 (s : List UInt8) : Bool := !decide (s = []) && (!decide (32 < s.length) && (yjj (zae s 0) && yaq ydo s))
def ydm (L : zab) : zbb := (62, fun xs => match xs with
 | [.str s] => some (True, .bool (L zr5 s))
 | _ => none)
def yxg (L : zab) (s : List UInt8) : Nat -> St -> Option Ann := fun id st => match id with
 | 0 => some ⟨Nat, fun i => [(19, .int .i64 (L za7 i))], fun i => [], [0, 18], [], fun i => L (L2 L zpr ydo s) i, fun i => L2 L toC s i⟩
 | _ => none
theorem ydn : zay Tryz.prog (ydm std) := by
 intro xs p r h hp
 dsimp only [ydm] at h |-
 split at h <;> cases h
 try simp only [L2, L3, std] at hp |-
 rename_i s
 refine za8 (T := tt) (S := fun L => zam [zkm L, ztf L]) (lo := fun L => yxg L s) (lb := noA) 5 (fn := Tryz.f62) (xs := fun L => [.str s]) rfl rfl (by kernel_rfl) (by kernel_rfl) rfl zac (za2 ⟨zly, zyu, trivial⟩) (by kernel_rfl) ?_
 intro L P' Q' hL hP hQ
 (cbv; try simp only [syT, true_and, and_true])
 refine ⟨fun h => ?_, fun h1 => ⟨fun h => ?_, fun h2 => ⟨?_, fun h => ?_, fun h3 => ⟨⟨0, ?_⟩, fun i hi => ?_⟩⟩⟩⟩
 · (subst hL; subst hQ; simp only [L2, L3, std] at *; try simp only [syS, reduceCtorEq, Int.reduceToNat, Int.reduceAdd, Int.reduceSub] at *)
   rw [zr5, decide_eq_true h]; rfl
 · (subst hL; subst hQ; simp only [L2, L3, std] at *; try simp only [syS, reduceCtorEq, Int.reduceToNat, Int.reduceAdd, Int.reduceSub] at *)
   rw [zr5, decide_eq_true (show 32 < s.length by omega)]; simp
 · (subst hL; subst hQ; simp only [L2, L3, std] at *; try simp only [syS, reduceCtorEq, Int.reduceToNat, Int.reduceAdd, Int.reduceSub] at *)
   have : s.length ≠ 0 := fun h => h1 (List.eq_nil_of_length_eq_zero h)
   omega
 · (subst hL; subst hQ; simp only [L2, L3, std] at *; try simp only [syS, reduceCtorEq, Int.reduceToNat, Int.reduceAdd, Int.reduceSub] at *)
   rw [zr5, show yjj (zae s 0) = false from h]; simp
 · (cbv; try simp only [syT, true_and, and_true])
   (subst hL; subst hQ; simp only [L2, L3, std] at *; try simp only [syS, reduceCtorEq, Int.reduceToNat, Int.reduceAdd, Int.reduceSub] at *)
   exact yf6 _ _
 · have hi2 : zpr ydo s i := by
     have h := hi
     rw [hL] at h
     exact h
   clear hi
   obtain ⟨hi3, hi4⟩ := hi2
   have g1 : ¬ s = [] := by
     rw [hL] at h1
     have h : seq s [] = false := h1
     simpa [seq] using h
   have g2 : ¬ 32 < s.length := by
     rw [hL] at h2
     have h : ilt 32 (s.length : Int) = false := h2
     rw [zeh] at h
     omega
   have g3 : yjj (zae s 0) = true := by
     rw [hL] at h3
     have h : (!yjj (zae s 0)) = false := h3
     simpa using h
   have g4 : zr5 s = yaq ydo s := by
     rw [zr5, decide_eq_false g1, decide_eq_false g2, g3]; rfl
   clear h1 h2 h3
   (cbv; try simp only [syT, true_and, and_true])
   have hcb : L (L zhh s) (L za7 i) = zae s i := by subst hL; rfl
   rw [hcb]
   clear hcb
   have step : i < s.length -> ydo (zae s i) = true -> zpr ydo s (i + 1) /\ toC s (i + 1) + 1 <= toC s i := fun h1 h2 => ⟨zo3 ⟨hi3, hi4⟩ h1 h2, by show s.length - (i + 1) + 1 <= s.length - i; omega⟩
   have bad : i < s.length -> ydo (zae s i) = false -> zr5 s = false := fun h1 h2 => by rw [g4]; exact zq8 h1 h2
   generalize zae s i = c at step bad |-
   have hlt2 : L (L ilt (L za7 i)) (L slen s) = true -> i < s.length := by
     intro h
     rw [hL] at h
     have h : ilt (i : Int) (s.length : Int) = true := h
     rw [zcp] at h
     omega
   refine ⟨fun hlt => ⟨?_, fun h1 => ⟨?_, fun h2 => ⟨?_, fun h3 => ?_, fun h3 => ⟨i + 1, ?_⟩⟩, fun h2 => ⟨i + 1, ?_⟩⟩, fun h1 => ⟨i + 1, ?_⟩⟩, fun hge => ?_⟩
   · (subst hL; subst hQ; simp only [L2, L3, std] at *; try simp only [syS, reduceCtorEq, Int.reduceToNat, Int.reduceAdd, Int.reduceSub] at *)
     omega
   · (subst hL; subst hQ; simp only [L2, L3, std] at *; try simp only [syS, reduceCtorEq, Int.reduceToNat, Int.reduceAdd, Int.reduceSub] at *)
     omega
   · (subst hL; subst hQ; simp only [L2, L3, std] at *; try simp only [syS, reduceCtorEq, Int.reduceToNat, Int.reduceAdd, Int.reduceSub] at *)
     omega
   · have hli := hlt2 hlt
     (subst hL; subst hQ; simp only [L2, L3, std] at *; try simp only [syS, reduceCtorEq, Int.reduceToNat, Int.reduceAdd, Int.reduceSub] at *)
     rw [bad hli (by simp [ydo, h1, h2, h3])]
   · have hli := hlt2 hlt
     (cbv; try simp only [syT, true_and, and_true])
     (subst hL; subst hQ; simp only [L2, L3, std] at *; try simp only [syS, reduceCtorEq, Int.reduceToNat, Int.reduceAdd, Int.reduceSub] at *)
     obtain ⟨k1, k2⟩ := step hli (by simp [ydo, h3])
     exact ⟨by omega, k1, k2⟩
   · have hli := hlt2 hlt
     (cbv; try simp only [syT, true_and, and_true])
     (subst hL; subst hQ; simp only [L2, L3, std] at *; try simp only [syS, reduceCtorEq, Int.reduceToNat, Int.reduceAdd, Int.reduceSub] at *)
     obtain ⟨k1, k2⟩ := step hli (by simp [ydo, h2])
     exact ⟨by omega, k1, k2⟩
   · have hli := hlt2 hlt
     (cbv; try simp only [syT, true_and, and_true])
     (subst hL; subst hQ; simp only [L2, L3, std] at *; try simp only [syS, reduceCtorEq, Int.reduceToNat, Int.reduceAdd, Int.reduceSub] at *)
     obtain ⟨k1, k2⟩ := step hli (by simp [ydo, h1])
     exact ⟨by omega, k1, k2⟩
   · (subst hL; subst hQ; simp only [L2, L3, std] at *; try simp only [syS, reduceCtorEq, Int.reduceToNat, Int.reduceAdd, Int.reduceSub] at *)
     rw [g4, ziv ⟨hi3, hi4⟩ (by omega)]
def yuc (c : Int) : Bool := yoh c || decide (c = 45)
def ye8 (s : List UInt8) : Int := zae s (s.length - 1)
def zea (s : List UInt8) : Bool := !decide (s = []) && (!decide (32 < s.length) && (!decide (zae s 0 = 45) && (!decide (ye8 s = 45) && yaq yuc s)))
def yh8 (c : Int) : Int := if 65 <= c /\ c <= 90 then c + 32 else c
def lowB (b : UInt8) : UInt8 := UInt8.ofNat (yh8 (b.toNat : Int)).toNat
def zbi (s : List UInt8) : List UInt8 := s.map lowB
def yh7 (s : List UInt8) (i k : Nat) : Int := if k < i then yh8 (zae s k) else zae s k
theorem zlx {s : List UInt8} {i k : Nat} : yh7 s (i + 1) k = if k = i then yh8 (zae s i) else yh7 s i k := by
 unfold yh7
 by_cases e : k = i
 · rw [if_pos e, if_pos (by omega), e]
 · rw [if_neg e]
   by_cases h : k < i
   · rw [if_pos (by omega), if_pos h]
   · rw [if_neg (by omega), if_neg h]
theorem yjg {s : List UInt8} {i : Nat} (h : s.length <= i) : zbf s.length (fun k => (AV.int .u8 (yh7 s i (0 + k))).toI) = zbi s := by
 apply List.ext_getElem
 · simp [zbf, zbi]
 · intro k h1 h2
   have hk : k < s.length := by simpa [zbi] using h2
   simp only [zbf, zbi, List.getElem_map, List.getElem_range, AV.toI, Nat.zero_add]
   rw [yh7, if_pos (by omega), zfd hk]
   rfl
def leN8 (s : List UInt8) (i : Nat) : Prop := i <= s.length
def zts (L : zab) : zbb := (48, fun xs => match xs with
 | [.str s] => some (L2 L upto 1000000000 s, .str (L zbi s))
 | _ => none)
def yts (L : zab) (s : List UInt8) : Nat -> St -> Option Ann := fun id st => match id with
 | 0 => some ⟨Nat, fun i => [(10, .int .i64 (L za7 i)), (3, .sl 900 1 0 (L lenN s)), (8, .sl 900 1 0 (L lenN s))], fun i => [(900, .row 5 1 (L lenN s) (fun k _ => .int .u8 (L3 L yh7 s i k)))], [9], [], fun i => L2 L leN8 s i, fun i => L2 L toC s i⟩
 | _ => none
theorem zz9 : zay Tryz.prog (zts std) := by
 intro xs p r h hp
 dsimp only [zts] at h |-
 split at h <;> cases h
 try simp only [L2, L3, std] at hp |-
 rename_i s
 have hz : s.length <= 1000000000 := hp
 refine za8 (T := tt) (S := fun L => noS L) (lo := fun L => yts L s) (lb := noA) 5 (fn := Tryz.f48) (xs := fun L => [.str s]) rfl rfl (by kernel_rfl) (by kernel_rfl) rfl zac (zc2 _) (by kernel_rfl) ?_
 intro L P' Q' hL hP hQ
 (cbv; try simp only [syT, true_and, and_true])
 refine ⟨⟨0, ?_⟩, fun i hi => ?_⟩
 · (cbv; try simp only [syT, true_and, and_true])
   (subst hL; subst hQ; simp only [L2, L3, std] at *; try simp only [syS, reduceCtorEq, Int.reduceToNat, Int.reduceAdd, Int.reduceSub] at *)
   exact ⟨fun i j hi hj => by rw [yh7, if_neg (by omega)], Nat.zero_le _⟩
 · have hi2 : i <= s.length := by
     have h := hi
     rw [hL] at h
     exact h
   clear hi
   (cbv; try simp only [syT, true_and, and_true])
   have hc : L (L (L yh7 s) i) (L (L Nat.add 0) (L Int.toNat (L za7 i))) = zae s i := by
     subst hL
     show yh7 s i (0 + i) = _
     rw [Nat.zero_add, yh7, if_neg (by omega)]
   rw [hc]
   refine ⟨fun hlt => ⟨?_, fun h1 => ⟨fun h2 => ⟨?_, ?_, i + 1, ?_⟩, fun h2 => ⟨i + 1, ?_⟩⟩, fun h1 => ⟨i + 1, ?_⟩⟩, fun hge => ?_⟩
   · (subst hL; subst hQ; simp only [L2, L3, std] at *; try simp only [syS, reduceCtorEq, Int.reduceToNat, Int.reduceAdd, Int.reduceSub] at *)
     omega
   · (subst hL; subst hQ; simp only [L2, L3, std] at *; try simp only [syS, reduceCtorEq, Int.reduceToNat, Int.reduceAdd, Int.reduceSub] at *)
     omega
   · (subst hL; subst hQ; simp only [L2, L3, std] at *; try simp only [syS, reduceCtorEq, Int.reduceToNat, Int.reduceAdd, Int.reduceSub] at *)
     omega
   · (cbv; try simp only [syT, true_and, and_true])
     try simp only [hc]
     (subst hL; subst hQ; simp only [L2, L3, std] at *; try simp only [syS, reduceCtorEq, Int.reduceToNat, Int.reduceAdd, Int.reduceSub] at *)
     refine ⟨fun k j hk hj => ?_, by omega, by show i + 1 <= s.length; omega, by show s.length - (i + 1) + 1 <= s.length - i; omega⟩
     rw [yx9 _ _ _ _ _ _ hj, zlx]
     by_cases e : k = i
     · rw [if_pos e, if_pos e, yh8, if_pos ⟨h1, h2⟩]
       congr 1
       omega
     · rw [if_neg e, if_neg e]
   · (cbv; try simp only [syT, true_and, and_true])
     (subst hL; subst hQ; simp only [L2, L3, std] at *; try simp only [syS, reduceCtorEq, Int.reduceToNat, Int.reduceAdd, Int.reduceSub] at *)
     refine ⟨fun k j hk hj => ?_, by omega, by show i + 1 <= s.length; omega, by show s.length - (i + 1) + 1 <= s.length - i; omega⟩
     rw [zlx]
     by_cases e : k = i
     · rw [if_pos e, yh8, if_neg (by omega), e, hc]
     · rw [if_neg e]
   · (cbv; try simp only [syT, true_and, and_true])
     (subst hL; subst hQ; simp only [L2, L3, std] at *; try simp only [syS, reduceCtorEq, Int.reduceToNat, Int.reduceAdd, Int.reduceSub] at *)
     refine ⟨fun k j hk hj => ?_, by omega, by show i + 1 <= s.length; omega, by show s.length - (i + 1) + 1 <= s.length - i; omega⟩
     rw [zlx]
     by_cases e : k = i
     · rw [if_pos e, yh8, if_neg (by omega), e, hc]
     · rw [if_neg e]
   · subst hQ; subst hL
     have hge : ilt (i : Int) (s.length : Int) = false := hge
     rw [zeh] at hge
     refine ⟨⟨by show 0 + s.length <= s.length; omega, fun k hk => ⟨_, rfl⟩⟩, ?_⟩
     rw [zpq]
     exact yjg (by omega)
def yh6 (s : List UInt8) (i : Nat) : List UInt8 := zbi (s.take i)
theorem zlw {s : List UInt8} {i : Nat} (h : i < s.length) : yh6 s (i + 1) = yh6 s i ++ [UInt8.ofNat (yh8 (zae s i)).toNat] := by
 rw [yh6, List.take_succ_eq_append_getElem h, zfd h, yh6]
 unfold zbi lowB
 rw [List.map_append]; rfl
theorem yjf {s : List UInt8} {i : Nat} (h : s.length <= i) : yh6 s i = zbi s := by rw [yh6, List.take_of_length_le h]
def yny (L : zab) (s : List UInt8) : Nat -> St -> Option Ann := fun id st => match id with
 | 0 => some ⟨Nat, fun i => [(4, .int .i64 (L za7 i)), (3, .str (L2 L yh6 s i))], fun i => [], [0], [], fun i => L2 L leN8 s i, fun i => L2 L toC s i⟩
 | _ => none
end Sy
end Go.Proofs.YtogpolfhcbgcbaaGreatDoor
namespace Go.Proofs.YtogpolfhcbgcbaaGreatDoor
open Go Go.RowKit Go.Sort Go.Lib
set_option maxRecDepth 100000
set_option linter.unusedSimpArgs false
set_option linter.unusedVariables false
set_option maxHeartbeats 6400000 in
theorem yug (u : Nat) (hu : u < 18446744073709551616) (w : World) (htab : Lib.TabIs Tryz.prog w "internal/strconv.uint64pow10" .u64 Lib.pow10Tab) :
   Calls Tryz.prog 154 #[.int .u64 u, .int .i64 10] w fun e w' => e = .returned (.string ⟨(Lib.decDigits u).toArray⟩) /\ Below w.heap.size w w' := by
 by_cases hs : u < 100
 · have hw : IntKind.i64.wrap (u : Int) = (u : Int) := by rw [IntKind.wrap_i64]; omega
   go_enter Tryz.func154, Tryz.ntmps154
   go_wp2_with (go_at_call 162; refine (Tryz.internal_strconv_small u hs _).mono ?_; rintro e w' ⟨rfl, rfl⟩)
   go_ret
   exact ⟨rfl, Below.refl _ _⟩
 · have hu1 : 1 <= u := by omega
   have hnd20 : Lib.nDigits u <= 20 := by have := Lib.numDigits_eq u hu1 hu; split at this <;> omega
   have hal : Tryz.prog.arrayLen 191 = 24 := by kernel_rfl
   have hsl1 : ∀ W, (Instr.sliceAt 191 (.pointer (some ⟨w.heap.size, 0, none⟩)) none (some (.int .i64 (Lib.nDigits u : Int))) none).run Tryz.prog W = .ok (.slice (some ⟨w.heap.size, 0, none⟩) (Lib.nDigits u) 24) W := fun W => by
     rw [run_sliceAt_array_h W 191 ⟨w.heap.size, 0, none⟩ (by simp [Program.arrayLen, Program.elem, Tryz.underlying191]) .i64 (Lib.nDigits u : Int) (by omega) (by rw [hal]; omega)]
     go_simp
     first | done | omega
   have hH0 := Lib.holds_zero0 w 191 (Lib.nDigits u) (by omega)
   have hfmt := Tryz.internal_strconv_formatBase10 w.heap.size 0 24 u (Array.replicate (Lib.nDigits u) 0) (w.alloc (.cells Lib.zeros24 191)) hH0 (by rw [Array.size_replicate]; exact Lib.lt_pow_nDigits u) hu (by rw [Array.size_replicate]; omega)
   rw [Array.size_replicate] at hfmt
   have HH0 := Lib.hid hH0
   clear hH0 hal
   go_enter Tryz.func154, Tryz.ntmps154
   go_wp2_with (first
     | (go_at_call 163; refine (Tryz.internal_strconv_numDigits u hu1 hu _ (Lib.tabIs_alloc htab _)).mono ?_; rintro e w' ⟨rfl, rfl⟩))
   refine hfmt.mono ?_
   rintro e w' ⟨rfl, k, v', dk, rfl, hF⟩
   have hcv : (convert 94 9 (.slice (some ⟨w.heap.size, 0, none⟩) (Lib.nDigits u) 24)).run Tryz.prog ((putRow (fun (b : UInt8) => Value.int .u8 (b.toNat : Int)) (w.alloc (.cells Lib.zeros24 191)) w.heap.size 0 dk).drewN k) = .ok (.string ⟨(Lib.decDigits u).toArray⟩) ((putRow (fun (b : UInt8) => Value.int .u8 (b.toNat : Int)) (w.alloc (.cells Lib.zeros24 191)) w.heap.size 0 dk).drewN k) := by
     have h := run_convert_bytes_back (P := Tryz.prog) ((putRow (fun (b : UInt8) => Value.int .u8 (b.toNat : Int)) (w.alloc (.cells Lib.zeros24 191)) w.heap.size 0 dk).drewN k) 94 9 5 ⟨w.heap.size, 0, none⟩ 24 (Lib.decDigits u) Tryz.underlying94 Tryz.underlying5 Tryz.underlying9 (fun j hj => by
       rw [Lib.row_is_numeral hF j hj, Lib.add_plain, World.cell?_drewN]
       exact cell?_putRow (fun (b : UInt8) => Value.int .u8 (b.toNat : Int)) _ w.heap.size 0 _ dk HH0.out (by rw [hF.size, Array.size_replicate]) j (by rw [hF.size]; rw [Lib.decDigits_length] at hj; exact hj))
     rw [Lib.decDigits_length] at h
     exact h
   go_wp2
   go_ret
   obtain ⟨os, eo⟩ := Lib.fin_at w (.cells Lib.zeros24 191) dk k 0
   refine ⟨rfl, ?_⟩
   have := Lib.below_grow w.heap.size w (Nat.le_refl _) k os
   rw [<- eo] at this
   exact this
theorem ypw (u : Nat) (hu : u < 18446744073709551616) (w : World) (htab : Lib.TabIs Tryz.prog w "internal/strconv.uint64pow10" .u64 Lib.pow10Tab) :
   Calls Tryz.prog 149 #[.int .u64 u, .int .i64 10] w fun e w' => e = .returned (.string ⟨(Lib.decDigits u).toArray⟩) /\ Below w.heap.size w w' := by
 go_enter Tryz.func149, Tryz.ntmps149
 go_wp2_with (go_at_call 154; refine (yug u hu _ htab).mono ?_; rintro e w' ⟨rfl, hw⟩)
 go_ret
 exact ⟨rfl, hw⟩
end Go.Proofs.YtogpolfhcbgcbaaGreatDoor
namespace Go.Proofs.YtogpolfhcbgcbaaGreatDoor
namespace Sy
open Go Go.RowKit
set_option maxRecDepth 100000
set_option linter.unusedSimpArgs false
set_option linter.unusedVariables false
theorem zgv {P : Program} {f : FuncId} {fn : Func} {c : Code} {xs : List AV} {args : Array Value} {r : AV} (hf : P.funcs[f]? = some fn) (hb : fn.body = some c) (hn : (fn.name == "runtime.NumGoroutine") = false)
   (ha : ∀ h D vs, RL h D zav xs vs -> vs = args) (h : ∀ w, GOk w -> Calls P f args w fun e w' => ∃ v, e = .returned v /\ Below w.heap.size w w' /\ ∀ h D, R h D zav r v) : zad P f xs r := by
 intro D w vs hD hxs hg
 have := ha _ _ _ hxs
 subst this
 unfold zek
 rw [zcv hf hn hb]
 refine (h w hg).mono ?_
 rintro e w' ⟨v, rfl, hw, hv⟩
 exact ⟨v, D, rfl, hw, fun _ h => h, fun b hb => .inl hb, hv _ _⟩
theorem args3 {x y z : AV} {v u t : Value} (hx : zsg x v) (hy : zsg y u) (hz : zsg z t) : ∀ h D vs, RL h D zav [x, y, z] vs -> vs = #[v, u, t] := by
 intro h D vs ⟨hl, hr⟩
 obtain ⟨a, b, c, ha⟩ : ∃ a b c, vs.toList = [a, b, c] := by
   have hl : vs.toList.length = 3 := by simpa using hl.symm
   match vs.toList, hl with
   | [a, b, c], _ => exact ⟨a, b, c, rfl⟩
 have : vs = #[a, b, c] := by rw [<- Array.toArray_toList (xs := vs), ha]
 subst this
 rw [hx _ _ a (hr 0 x a rfl rfl), hy _ _ b (hr 1 y b rfl rfl), hz _ _ c (hr 2 z c rfl rfl)]
def zd5 (n : Int) : List UInt8 := Lib.decDigits n.toNat
def zl0 (n : Int) : Prop := 0 <= n /\ n < 18446744073709551616
def ypv (L : zab) : zbb := (149, fun xs => match xs with | [.int .u64 n, .int .i64 b] => some (L2 L (fun n b : Int => zl0 n /\ b = 10) n b, .str (L zd5 n)) | _ => none)
theorem yke : zay Tryz.prog (ypv std) := by
 intro xs p r h hp
 dsimp only [ypv] at h |-
 split at h <;> cases h
 try simp only [L2, L3, std] at hp |-
 rename_i n b
 obtain ⟨⟨h0, h1⟩, h2⟩ : zl0 n /\ b = 10 := hp
 subst h2
 obtain ⟨u, rfl⟩ := znp h0
 refine zgv (fn := Tryz.f149) rfl rfl (by kernel_rfl) (yab (ze7 _ _) (ze7 _ _)) (fun w hg => (ypw u (by omega) w hg.2.1).mono ?_)
 rintro e w' ⟨rfl, hw⟩
 exact ⟨_, rfl, hw, fun h D => yhm h D _ _⟩
def yin (s : List UInt8) : Int := match Lib.parseUintB 64 s with | .ok u => u | .syntax => 0 | .range => 18446744073709551615
def yh2 (s : List UInt8) : Bool := match Lib.parseUintB 64 s with | .ok _ => true | _ => false
def yob (L : zab) : zbb := (148, fun xs => match xs with | [.str s, .int .i64 b, .int .i64 z] => some (L3 L (fun (s : List UInt8) (b z : Int) => s.length <= 140737488355328 /\ b = 10 /\ z = 64) s b z, .tup [.int .u64 (L yin s), .ifb (L yh2 s)]) | _ => none)
theorem yb6 {x y : AV} {v u : Value} {h : Array Obj} {D : Nat -> Prop} (hx : R h D zav x v) (hy : R h D zav y u) : R h D zav (.tup [x, y]) (.tuple #[v, u]) := by
 refine .tup _ _ rfl ?_
 intro i z t hz ht
 match i with
 | 0 => simp at hz ht; subst hz ht; exact hx
 | 1 => simp at hz ht; subst hz ht; exact hy
 | i + 2 => simp at hz
theorem yim : zay Tryz.prog (yob std) := by
 intro xs p r h hp
 dsimp only [yob] at h |-
 split at h <;> cases h
 try simp only [L2, L3, std] at hp |-
 rename_i s b z
 obtain ⟨h0, h1, h2⟩ : s.length <= 140737488355328 /\ b = 10 /\ z = 64 := hp
 subst h1; subst h2
 have hs : (⟨s.toArray⟩ : ByteArray).size = s.length := by show s.toArray.size = s.length; simp
 have hd : (⟨s.toArray⟩ : ByteArray).data.toList = s := rfl
 refine zgv (fn := Tryz.f148) rfl rfl (by kernel_rfl) (args3 (zcw _) (ze7 _ _) (ze7 _ _)) (fun w hg => ?_)
 obtain ⟨-, -, ⟨t2, p2, g2⟩, ⟨t3, p3, g3⟩, -⟩ := hg
 cases hq : Lib.parseUintB 64 s with
 | ok u =>
   refine (Tryz.strconv_ParseUint_10_at64_ok ⟨s.toArray⟩ (by rw [hs]; omega) u (by rw [hd]; exact hq) w).mono ?_
   rintro e w' ⟨rfl, hw⟩
   refine ⟨_, rfl, ?_, fun h D => yb6 ?_ ?_⟩
   · rcases hw with rfl | rfl
     · exact Below.refl _ _
     · exact Lib.bytesWorld_below _ _ _
   · show R h D zav (.int .u64 (yin s)) _
     rw [yin, hq]; exact .int _ _
   · show R h D zav (.ifb (yh2 s)) _
     rw [yh2, hq]; exact .ifn
 | «syntax» =>
   refine (Tryz.strconv_ParseUint_10_at64_syntax_var ⟨s.toArray⟩ (by rw [hs]; omega) (by rw [hd]; exact hq) t2 p2 w g2).mono ?_
   rintro e w' ⟨N, rfl, hN, hc, hw⟩
   refine ⟨_, rfl, hw, fun h D => yb6 ?_ ?_⟩
   · show R h D zav (.int .u64 (yin s)) _
     rw [yin, hq]; exact .int _ _
   · show R h D zav (.ifb (yh2 s)) _
     rw [yh2, hq]; exact .ifs _ _
 | range =>
   refine (Tryz.strconv_ParseUint_10_at64_range_var ⟨s.toArray⟩ (by rw [hs]; omega) (by rw [hd]; exact hq) t3 p3 w g3).mono ?_
   rintro e w' ⟨N, rfl, hN, hc, hw⟩
   refine ⟨_, rfl, hw, fun h D => yb6 ?_ ?_⟩
   · show R h D zav (.int .u64 (yin s)) _
     rw [yin, hq]; exact .int _ _
   · show R h D zav (.ifb (yh2 s)) _
     rw [yh2, hq]; exact .ifs _ _
def zcy (n : Int) : Prop := 0 <= n /\ n < 18446744073709551616
def zb8 (n : Int) : List UInt8 := zdo n.toNat
def zla (L : zab) : zbb := (137, fun xs => match xs with | [.int .u64 n] => some (L zcy n, .str (L zb8 n)) | _ => none)
theorem zje : zay Tryz.prog (zla std) := by
 intro xs p r h hp
 dsimp only [zla] at h |-
 split at h <;> cases h
 try simp only [L2, L3, std] at hp |-
 rename_i n
 obtain ⟨h0, h1⟩ : zcy n := hp
 obtain ⟨k, rfl⟩ := znp h0
 exact zej (fn := Tryz.f137) rfl rfl (by kernel_rfl) (args1 (ze7 _ _)) (fun h D => yhm h D _ _) (fun w => ybn k w (by omega))
theorem ya9 : zad Tryz.prog 141 [] (.bool true) := by
 refine zaa (T := tt) (S := fun L => zam [zla L, yij L]) (lo := noA) (lb := noA) 5 (fn := Tryz.f141) rfl rfl (by kernel_rfl) (by kernel_rfl) rfl zac (za2 ⟨zje, zvj, trivial⟩) (by kernel_rfl) ?_
 (intro L P1 Q1 hL hP hQ; cbv; subst hL; simp only [L2, L3, std, syT]; subst hQ)
 (simp only [syS, reduceCtorEq, Int.reduceToNat, Int.reduceAdd, Int.reduceSub])
 exact ⟨by unfold zcy; omega, fun _ => ⟨by unfold yoa; omega, by decide +kernel⟩, by rw [zb8, show (300 : Int).toNat = 300 from rfl, zgy (by decide), zbg (by decide)]; rfl⟩
def tru (f : Nat) : zbb := (f, fun xs => match xs with | [] => some (True, .bool true) | _ => none)
theorem zbz {P : Program} {f : Nat} (h : zad P f [] (.bool true)) : zay P (tru f) := by
 intro xs p r h' hp
 match xs with
 | [] => cases h'; exact h
 | x :: xs => cases h'
theorem zoi : zad Tryz.prog 123 [] (.bool true) := by
 refine zaa (T := tt) (S := fun L => zam [tru 141]) (lo := noA) (lb := noA) 5 (fn := Tryz.f123) rfl rfl (by kernel_rfl) (by kernel_rfl) rfl zac (za2 ⟨zbz ya9, trivial⟩) (by kernel_rfl) ?_
 (intro L P1 Q1 hL hP hQ; cbv; subst hL; simp only [L2, L3, std, syT]; subst hQ)
 (simp only [syS, reduceCtorEq, Int.reduceToNat, Int.reduceAdd, Int.reduceSub])
def isD (c : UInt8) : Bool := decide (48 <= c.toNat) && decide (c.toNat <= 57)
def dcS (a : Nat) (c : UInt8) : Nat := a * 10 + (c.toNat - 48)
def zn5 (a : Nat) (l : List UInt8) : Nat := l.foldl dcS a
theorem zkt (a : Nat) : zn5 a [] = a := by unfold zn5; exact List.foldl_nil
theorem ziz (a : Nat) (c : UInt8) (r : List UInt8) : zn5 a (c :: r) = zn5 (a * 10 + (c.toNat - 48)) r := by unfold zn5; exact List.foldl_cons ..
theorem zx9 (l : List UInt8) (c : UInt8) (a : Nat) : zn5 a (l ++ [c]) = zn5 a l * 10 + (c.toNat - 48) := by
 unfold zn5
 rw [List.foldl_append, List.foldl_cons, List.foldl_nil, dcS]
theorem zuk : ∀ (l : List UInt8) (a : Nat), a <= zn5 a l
 | [], a => by rw [zkt]; exact Nat.le_refl _
 | c :: r, a => by rw [ziz]; exact Nat.le_trans (by omega) (zuk r _)
theorem zht {c : UInt8} : isD c = true ↔ 48 <= c.toNat /\ c.toNat <= 57 := by
 simp [isD]
theorem ylx : ∀ (l : List UInt8) (a : Nat), l.all isD = true -> a < 18446744073709551616 -> Lib.parseUintM 18446744073709551615 a l = if zn5 a l < 18446744073709551616 then .ok (zn5 a l) else .range
 | [], a, _, ha => by
   rw [zkt, if_pos ha, Lib.parseUintM]
 | c :: r, a, h, ha => by
   rw [List.all_cons, Bool.and_eq_true] at h
   obtain ⟨h1, h2⟩ := h
   rw [zht] at h1
   rw [Lib.parseUintM, if_pos h1, ziz]
   have hge := zuk r (a * 10 + (c.toNat - 48))
   split
   · rw [if_neg (by omega)]
   · split
     · rw [if_neg (by omega)]
     · exact ylx r _ h2 (by omega)
theorem yoc {l : List UInt8} (h : l.all isD = true) (h0 : l ≠ []) : Lib.parseUintB 64 l = if zn5 0 l < 18446744073709551616 then .ok (zn5 0 l) else .range := by
 rw [Lib.parseUintB, if_neg h0]
 exact ylx l 0 h (by decide)
def ztm (s : List UInt8) : Bool := s.all isD && !(s == []) && (!(zhh s 0 == 48) || s == [48])
def zsl (s : List UInt8) : Int := if ztm s = true then (if zn5 0 s < 18446744073709551616 then 0 else 7) else 4
def wnV (s : List UInt8) : Int := if zsl s = 0 then zn5 0 s else 0
def yqf (L : zab) : zbb := (142, fun xs => match xs with | [.int .u64 n] => some (L zl0 n, .str (L zd5 n)) | _ => none)
theorem ykr : zay Tryz.prog (yqf std) := by
 intro xs p r h hp
 dsimp only [yqf] at h |-
 split at h <;> cases h
 try simp only [L2, L3, std] at hp |-
 rename_i n
 have hn : zl0 n := hp
 refine zaa (T := tt) (S := fun L => zam [ypv L]) (lo := noA) (lb := noA) 5 (fn := Tryz.f142) rfl rfl (by kernel_rfl) (by kernel_rfl) rfl zac (za2 ⟨yke, trivial⟩) (by kernel_rfl) ?_
 (intro L P1 Q1 hL hP hQ; cbv; subst hL; simp only [L2, L3, std, syT]; subst hQ)
 refine ⟨⟨hn, trivial⟩, ?_⟩
 rw [zpq]
def yix (s : List UInt8) (i : Nat) : Prop := i <= s.length /\ (s.take i).all isD = true
theorem ypx (a b c d : Int) : zg4 (.tup [.int .u64 a, .int .i64 b]) (.tup [.int .u64 c, .int .i64 d]) = (c = a /\ d = b) := by
 simp [sySet]
theorem zp8 {s : List UInt8} (h : ztm s = false) : 0 = wnV s /\ 4 = zsl s := by
 have e : zsl s = 4 := by rw [zsl, if_neg (by rw [h]; decide)]
 exact ⟨by rw [wnV, if_neg (by rw [e]; decide)], e.symm⟩
theorem ydk {s : List UInt8} {i : Nat} (hi : i < s.length) (h : zhh s (za7 i) < 48 \/ 57 < zhh s (za7 i)) : ztm s = false := by
 have : s.all isD = false := by
   rw [List.all_eq_false]
   refine ⟨s[i], List.getElem_mem hi, ?_⟩
   rw [zht]
   rw [zhh, za7, Int.toNat_natCast, List.getD_eq_getElem?_getD, List.getElem?_eq_getElem hi, Option.getD_some] at h
   omega
 rw [ztm, this]; rfl
theorem yon {s : List UInt8} {i i' : Nat} (hi' : i' = i + 1) (h : yix s i) (hi : i < s.length) (h1 : ¬ zhh s (za7 i) < 48) (h2 : ¬ 57 < zhh s (za7 i)) : yix s i' := by
 subst hi'
 refine ⟨hi, ?_⟩
 rw [List.take_succ_eq_append_getElem hi, List.all_append, h.2, List.all_cons, List.all_nil]
 rw [zhh, za7, Int.toNat_natCast, List.getD_eq_getElem?_getD, List.getElem?_eq_getElem hi, Option.getD_some] at h1 h2
 have : isD s[i] = true := zht.2 (by omega)
 rw [this]; rfl
theorem zvy {s : List UInt8} {i : Nat} (h : yix s i) (hi : ¬ i < s.length) : s.all isD = true := by
 have := h.2
 rw [List.take_of_length_le (by omega)] at this
 exact this
theorem zkl {s : List UInt8} (h : s.all isD = true) (h0 : s ≠ []) (h1 : zhh s 0 ≠ 48 \/ s = [48]) : ((!yh2 s) = true -> 0 = wnV s /\ 7 = zsl s) /\ ((!yh2 s) = false -> yin s = wnV s /\ 0 = zsl s) := by
 have ho : ztm s = true := by
   rw [ztm, h]
   rcases h1 with h1 | h1
   · simp [h0, h1]
   · subst h1; rfl
 have hB := yoc h h0
 rw [wnV, zsl, if_pos ho, yh2, yin, hB]
 by_cases hl : zn5 0 s < 18446744073709551616
 · rw [if_pos hl, if_pos hl]
   exact ⟨fun h => by simp at h, fun _ => ⟨rfl, rfl⟩⟩
 · rw [if_neg hl, if_neg hl]
   exact ⟨fun _ => ⟨rfl, rfl⟩, fun h => by simp at h⟩
def nuA (L : zab) (s : List UInt8) : Nat -> St -> Option Ann := fun id st => match id with
 | 0 => some ⟨Nat, fun i => [(9, .int .i64 (L za7 i))], fun _ => [], [0, 8], [], fun i => L2 L yix s i, fun i => L2 L (fun (s : List UInt8) (i : Nat) => s.length - i) s i⟩
 | _ => none
def yau (L : zab) : zbb := (140, fun xs => match xs with | [.str s] => some (L2 L upto 1000000 s, .tup [.int .u64 (L wnV s), .int .i64 (L zsl s)]) | _ => none)
theorem zgk {n k : Nat} (h : ilt (za7 n) (za7 k) = true) : n < k := by
 have := of_decide_eq_true h
 unfold za7 at this; omega
theorem zis {n k : Nat} (h : ilt (za7 n) (za7 k) = false) : ¬ n < k := by
 have := of_decide_eq_false h
 unfold za7 at this; omega
theorem yeh {n k : Nat} (h : n < k) : inR (za7 n) (za7 k) = true := by rw [zn1]; exact ⟨Int.natCast_nonneg _, by unfold za7; omega⟩
theorem yj2 {n n' : Nat} (h : n' = n + 1) (h2 : n < 100000000) : zfi .i64 (za7 n) 1 = za7 n' := by
 subst h; unfold za7; rw [zfi, zha]; omega
theorem zr4 {s : List UInt8} (h : seq s [] = false) : s ≠ [] := by
 intro e; subst e; exact absurd h (by decide)
theorem yti {s : List UInt8} (h : seq s [] = true) : ztm s = false := by
 have : s = [] := by simpa [seq] using h
 subst this; rfl
theorem ytf {s : List UInt8} (h : seq s [] = false) : inR 0 (slen s) = true := by
 have := zr4 h
 rw [zn1, slen]
 have : 0 < s.length := List.length_pos_iff.2 this
 omega
theorem yte {s : List UInt8} (h : (!seq s [48]) = false) : s = [48] := by
 have : seq s [48] = true := by simpa using h
 simpa [seq] using this
theorem ym0 {s : List UInt8} (h : ieq (zhh s 0) 48 = false) : zhh s 0 ≠ 48 := by
 simpa [ieq] using h
theorem yth {s : List UInt8} (h : ieq (zhh s 0) 48 = true) (h2 : (!seq s [48]) = true) : ztm s = false := by
 have h1 : zhh s 0 = 48 := by simpa [ieq] using h
 have h3 : ¬ s = [48] := by
   intro e; subst e; exact absurd h2 (by decide)
 rw [ztm, h1]
 simp [h3]
theorem yav : zay Tryz.prog (yau std) := by
 intro xs p r h hp
 dsimp only [yau] at h |-
 split at h <;> cases h
 try simp only [L2, L3, std] at hp |-
 rename_i s
 have hs : s.length <= 1000000 := hp
 refine zaa (T := tt) (S := fun L => zam [yob L]) (lo := fun L => nuA L s) (lb := noA) 5 (fn := Tryz.f140) rfl rfl (by kernel_rfl) (by kernel_rfl) rfl zac (za2 ⟨yim, trivial⟩) (by kernel_rfl) ?_
 obtain ⟨n0, hn0⟩ : ∃ n : Nat, n = 0 := ⟨_, rfl⟩
 intro L P' Q' hL hP hQ
 (cbv; try simp only [syT, true_and, and_true])
 refine ⟨⟨n0, ?_⟩, fun i hi => ?_⟩
 · (cbv; try simp only [syT, true_and, and_true])
   subst hL; subst hQ; subst hn0
   exact ⟨rfl, Nat.zero_le _, by rw [List.take_zero]; rfl⟩
 obtain ⟨i', hi'⟩ : ∃ i' : Nat, i' = i + 1 := ⟨_, rfl⟩
 (cbv; try simp only [syT, true_and, and_true])
 refine ⟨fun h1 => ⟨?_, fun h2 => ?_, fun h2 => ⟨?_, fun h3 => ?_, fun h3 => ⟨i', ?_⟩⟩⟩, fun h1 => ⟨fun h2 => ?_, fun h2 => ⟨?_, fun h3 => ⟨fun h4 => ?_, fun h4 => ⟨?_, fun h5 => ?_, fun h5 => ?_⟩⟩, fun h3 => ⟨?_, fun h5 => ?_, fun h5 => ?_⟩⟩⟩⟩
 all_goals (try (cbv; try simp only [syT, true_and, and_true]))
 all_goals (subst hL; subst hQ)
 all_goals (try rw [ypx])
 · exact yeh (k := s.length) (zgk h1)
 · exact zp8 (ydk (zgk (k := s.length) h1) (.inl (of_decide_eq_true h2)))
 · exact yeh (k := s.length) (zgk h1)
 · exact zp8 (ydk (zgk (k := s.length) h1) (.inr (of_decide_eq_true h3)))
 · have hlt : i < s.length := zgk (k := s.length) h1
   refine ⟨yj2 hi' (by omega), yon hi' hi hlt (of_decide_eq_false h2) (of_decide_eq_false h3), ?_⟩
   show s.length - i' + 1 <= s.length - i
   omega
 · exact zp8 (yti h2)
 · exact ytf h2
 · exact zp8 (yth h3 h4)
 · exact ⟨by omega, rfl, rfl⟩
 · exact (zkl (zvy hi (zis (k := s.length) h1)) (zr4 h2) (.inr (yte h4))).1 h5
 · exact (zkl (zvy hi (zis (k := s.length) h1)) (zr4 h2) (.inr (yte h4))).2 h5
 · exact ⟨by omega, rfl, rfl⟩
 · exact (zkl (zvy hi (zis (k := s.length) h1)) (zr4 h2) (.inl (ym0 h3))).1 h5
 · exact (zkl (zvy hi (zis (k := s.length) h1)) (zr4 h2) (.inl (ym0 h3))).2 h5
theorem yb4 {N : Nat} (h : (N : Int) < 18446744073709551616) : N < 18446744073709551616 := by omega
theorem yv3 {n : Nat} (h : n < 10) : (UInt8.ofNat (48 + n)).toNat = 48 + n := by
 rw [UInt8.toNat_ofNat']; omega
theorem ymo (u : Nat) : (Lib.decDigits u).all isD = true /\ Lib.decDigits u ≠ [] /\ zn5 0 (Lib.decDigits u) = u /\ (1 <= u -> zhh (Lib.decDigits u) 0 ≠ 48) := by
 induction u using Nat.strongRecOn with
 | _ u ih =>
   by_cases h : u < 10
   · rw [Lib.decDigits_one h]
     have hc := yv3 h
     refine ⟨?_, by simp, ?_, fun h1 => ?_⟩
     · rw [List.all_cons, List.all_nil, Bool.and_true, zht, hc]; omega
     · rw [ziz, zkt, hc]; omega
     · show ((UInt8.ofNat (48 + u)).toNat : Int) ≠ 48
       rw [hc]; omega
   · obtain ⟨a1, a2, a3, a4⟩ := ih (u / 10) (by omega)
     have hc := yv3 (show u % 10 < 10 by omega)
     rw [Lib.decDigits, dif_neg h]
     refine ⟨?_, by simp, ?_, fun _ => ?_⟩
     · rw [List.all_append, a1, List.all_cons, List.all_nil, Bool.and_true, Bool.true_and, zht, hc]; omega
     · rw [zx9, a3, hc]; omega
     · have := a4 (by omega)
       have h0 : 0 < (Lib.decDigits (u / 10)).length := List.length_pos_iff.2 a2
       rw [zhh, List.getD_eq_getElem?_getD] at this |-
       rw [List.getElem?_append_left (by simpa using h0)]
       exact this
theorem zf5 {n : Int} (h : zl0 n) : zsl (zd5 n) = 0 /\ wnV (zd5 n) = n := by
 obtain ⟨u, rfl⟩ := znp h.1
 have hu : u < 18446744073709551616 := yb4 h.2
 obtain ⟨a1, a2, a3, a4⟩ := ymo u
 have ho : ztm (zd5 (u : Int)) = true := by
   rw [zd5, Int.toNat_natCast, ztm, a1]
   by_cases h0 : 1 <= u
   · simp [a2, a4 h0]
   · have : u = 0 := by omega
     subst this
     rw [Lib.decDigits_one (by decide)]; rfl
 have e : zsl (zd5 (u : Int)) = 0 := by
   rw [zsl, if_pos ho, zd5, Int.toNat_natCast, a3, if_pos hu]
 refine ⟨e, ?_⟩
 rw [wnV, if_pos e, zd5, Int.toNat_natCast, a3]
theorem ymn : ∀ (n : Nat) (s : List UInt8), s.length = n -> s.all isD = true -> s ≠ [] -> (zhh s 0 ≠ 48 \/ s = [48]) -> Lib.decDigits (zn5 0 s) = s
 | 0, s, hl, _, h0, _ => absurd (List.eq_nil_of_length_eq_zero hl) h0
 | n + 1, s, hl, ha, h0, hz => by
   obtain ⟨t, c, rfl⟩ : ∃ t c, s = t ++ [c] := ⟨s.dropLast, s.getLast h0, (List.dropLast_concat_getLast h0).symm⟩
   rw [List.all_append, List.all_cons, List.all_nil, Bool.and_true, Bool.and_eq_true] at ha
   obtain ⟨ht, hc⟩ := ha
   rw [zht] at hc
   rw [zx9]
   have back : UInt8.ofNat (48 + (c.toNat - 48)) = c := by
     apply UInt8.toNat_inj.1
     rw [UInt8.toNat_ofNat']
     have := c.toNat_lt
     omega
   by_cases htn : t = []
   · subst htn
     rw [zkt, Nat.zero_mul, Nat.zero_add, Lib.decDigits_one (by omega), back]; rfl
   · have hlt : t.length = n := by simpa using hl
     obtain ⟨x, r, rfl⟩ := List.exists_cons_of_ne_nil htn
     have hx : zhh (x :: r) 0 ≠ 48 := by
       rcases hz with hz | hz
       · exact hz
       · have := congrArg List.length hz
         simp at this
     have h1 : 1 <= zn5 0 (x :: r) := by
       rw [ziz]
       refine Nat.le_trans ?_ (zuk r _)
       rw [List.all_cons, Bool.and_eq_true, zht] at ht
       have : x.toNat ≠ 48 := fun e => hx (by show ((x.toNat : Nat) : Int) = 48; omega)
       omega
     have ih := ymn n (x :: r) hlt ht htn (.inl hx)
     generalize zn5 0 (x :: r) = v at h1 ih |-
     rw [Lib.decDigits, dif_neg (by omega), show (v * 10 + (c.toNat - 48)) / 10 = v by omega, show (v * 10 + (c.toNat - 48)) % 10 = c.toNat - 48 by omega, ih, back]
theorem yxf {s : List UInt8} (h : ztm s = true) : s.all isD = true /\ s ≠ [] /\ (zhh s 0 ≠ 48 \/ s = [48]) := by
 simp only [ztm, Bool.and_eq_true, Bool.not_eq_true', Bool.or_eq_true, beq_iff_eq, beq_eq_false_iff_ne, ne_eq] at h
 exact ⟨h.1.1, h.1.2, h.2⟩
theorem zh8 {s : List UInt8} (h : zsl s = 0) : zd5 (wnV s) = s /\ zl0 (wnV s) := by
 have ho : ztm s = true := by
   cases hq : ztm s with
   | true => rfl
   | false => rw [zsl, hq, if_neg (by decide)] at h; exact absurd h (by decide)
 have hl : zn5 0 s < 18446744073709551616 := by
   rw [zsl, if_pos ho] at h
   split at h
   · assumption
   · exact absurd h (by decide)
 obtain ⟨h1, h2, h3⟩ := yxf ho
 rw [wnV, if_pos h, zd5, Int.toNat_natCast, ymn _ s rfl h1 h2 h3]
 exact ⟨rfl, by unfold zl0; omega⟩
theorem zmf {n : Int} (h : zl0 n) : (zd5 n).length <= 20 := by
 obtain ⟨u, rfl⟩ := znp h.1
 have hu : u < 18446744073709551616 := yb4 h.2
 rw [zd5, Int.toNat_natCast, Lib.decDigits_length]
 by_cases h0 : u = 0
 · subst h0; rw [Lib.nDigits_small (by decide)]; decide
 · have := Lib.numDigits_eq u (by omega) hu
   split at this <;> omega
structure Pl where
 a : Int
 b : Int
 c : Int
 d : Int
 p : Int
 deriving DecidableEq
def plA (L : zab) (x : Pl) : AV := .agg [.int .u8 (L Pl.a x), .int .u8 (L Pl.b x), .int .u8 (L Pl.c x), .int .u8 (L Pl.d x), .int .u16 (L Pl.p x)]
def yw3 (L : zab) (a b c d p : Int) : Pl := L (L (L (L (L Pl.mk a) b) c) d) p
def yaj (x : Pl) : Prop := (0 <= x.a /\ x.a <= 255) /\ (0 <= x.b /\ x.b <= 255) /\ (0 <= x.c /\ x.c <= 255) /\ (0 <= x.d /\ x.d <= 255) /\ 0 <= x.p /\ x.p <= 65535
def ub (n : Int) : UInt8 := UInt8.ofNat n.toNat
def plB (x : Pl) : List UInt8 := [ub x.a, ub x.b, ub x.c, ub x.d, ub (x.p / 256), ub (x.p % 256)]
def plT (x : Pl) : List UInt8 := zd5 x.a ++ 46 :: (zd5 x.b ++ 46 :: (zd5 x.c ++ 46 :: (zd5 x.d ++ 58 :: zd5 x.p)))
theorem ysf (n : Nat) : UInt8.ofNat n = UInt8.ofNat (n % 256) := by
 apply UInt8.toNat_inj.1
 rw [UInt8.toNat_ofNat', UInt8.toNat_ofNat']; omega
theorem yx5 {p : Int} (h0 : 0 <= p) (h1 : p <= 65535) : putZ p 2 = [ub (p / 256), ub (p % 256)] := by
 obtain ⟨n, rfl⟩ := znp h0
 show zt8 n 2 = _
 rw [zt8, zt8, zt8, Nat.pow_one, Nat.pow_zero, Nat.div_one, ysf n]
 show _ = [UInt8.ofNat ((n : Int) / 256).toNat, UInt8.ofNat ((n : Int) % 256).toNat]
 rw [show ((n : Int) / 256).toNat = n / 256 by omega, show ((n : Int) % 256).toNat = n % 256 by omega]
theorem yse {n : Int} (h0 : 0 <= n) (h1 : n <= 255) : ((ub n).toNat : Int) = n := by
 rw [ub, UInt8.toNat_ofNat']; omega
def zq6 (L : zab) : zbb := (117, fun xs => match xs with
 | [.agg [.int .u8 a, .int .u8 b, .int .u8 c, .int .u8 d, .int .u16 p]] => some (L yaj (yw3 L a b c d p), .str (L plB (yw3 L a b c d p)))
 | _ => none)
theorem zob : zay Tryz.prog (zq6 std) := by
 intro xs p r h hp
 dsimp only [zq6] at h |-
 split at h <;> cases h
 try simp only [L2, L3, std] at hp |-
 rename_i a b c d p
 have hp : yaj ⟨a, b, c, d, p⟩ := hp
 refine zaa (T := tt) (S := fun L => zam [yij L]) (lo := noA) (lb := noA) 5 (fn := Tryz.f117) rfl rfl (by kernel_rfl) (by kernel_rfl) rfl zac (za2 ⟨zvj, trivial⟩) (by kernel_rfl) ?_
 (intro L P1 Q1 hL hP hQ; cbv; subst hL; simp only [L2, L3, std, syT]; subst hQ)
 (simp only [syS, reduceCtorEq, Int.reduceToNat, Int.reduceAdd, Int.reduceSub])
 obtain ⟨-, -, -, -, h1, h2⟩ := hp
 simp only at h1 h2
 have h2 : p <= 65535 := h2
 rw [show p % 18446744073709551616 = p by omega, yx5 h1 h2]
 exact ⟨fun i _ => ⟨_, rfl⟩, ⟨by omega, by omega, by decide, by decide⟩, by simp [zbf], rfl⟩
def ipL (x : Pl) : List Int := [x.a, x.b, x.c, x.d]
def ipT (x : Pl) (j : Nat) : List UInt8 := zd5 (zkd (ipL x) j)
def le4s (i : Nat) : Prop := i <= 4
def to4 (i : Nat) : Nat := 4 - i
def txtA (L : zab) (x : Pl) : Nat -> St -> Option Ann := fun id st => match id with
 | 0 => some ⟨Nat, fun i => [(8, .int .i64 (L za7 i)), (3, .sl 900 1 0 i)], fun i => [(900, .row 9 1 i (fun j _ => .str (L2 L ipT x j)))], [1, 7], [1], fun i => L le4s i, fun i => L to4 i⟩
 | _ => none
theorem zze {x : Pl} (h : yaj x) (j : Nat) : zl0 (zkd (ipL x) j) := by
 obtain ⟨h1, h2, h3, h4, -⟩ := h
 match j with
 | 0 => exact ⟨h1.1, by have := h1.2; show x.a < _; omega⟩
 | 1 => exact ⟨h2.1, by have := h2.2; show x.b < _; omega⟩
 | 2 => exact ⟨h3.1, by have := h3.2; show x.c < _; omega⟩
 | 3 => exact ⟨h4.1, by have := h4.2; show x.d < _; omega⟩
 | j + 4 => exact ⟨Int.le_refl 0, (by decide : (0 : Int) < 18446744073709551616)⟩
theorem yxp (x : Pl) : Lib.join [zd5 x.a, zd5 x.b, zd5 x.c, zd5 x.d] [46] = zd5 x.a ++ 46 :: (zd5 x.b ++ 46 :: (zd5 x.c ++ 46 :: zd5 x.d)) := by
 simp [Lib.join, List.intercalate]
def ztc (L : zab) : zbb := (124, fun xs => match xs with
 | [.agg [.int .u8 a, .int .u8 b, .int .u8 c, .int .u8 d, .int .u16 p]] => some (L yaj (yw3 L a b c d p), .str (L plT (yw3 L a b c d p)))
 | _ => none)
theorem zyq : zay Tryz.prog (ztc std) := by
 intro xs p r h hp
 dsimp only [ztc] at h |-
 split at h <;> cases h
 try simp only [L2, L3, std] at hp |-
 rename_i a b c d p
 have hp : yaj ⟨a, b, c, d, p⟩ := hp
 refine zaa (T := tt) (S := fun L => zam [yqf L, yxq L]) (lo := fun L => txtA L ⟨a, b, c, d, p⟩) (lb := noA) 5 (fn := Tryz.f124) rfl rfl (by kernel_rfl) (by kernel_rfl) rfl zac (za2 ⟨ykr, yp1, trivial⟩) (by kernel_rfl) ?_
 intro L P' Q' hL hP hQ
 (cbv; try simp only [syT, true_and, and_true])
 refine ⟨⟨0, ?_⟩, fun i hi => ?_⟩
 · (cbv; try simp only [syT, true_and, and_true])
   (subst hL; subst hQ; simp only [L2, L3, std] at *; try simp only [syS, reduceCtorEq, Int.reduceToNat, Int.reduceAdd, Int.reduceSub] at *)
   exact Nat.zero_le _
 · (cbv; try simp only [syT, true_and, and_true])
   have hi4 : i <= 4 := by
     have hi' := hi
     rw [hL] at hi'
     exact hi'
   refine ⟨fun h1 => ⟨?_, ?_, ?_, i + 1, ?_⟩, fun h1 => ⟨?_, ?_, ?_, ?_, ?_⟩⟩
   · (subst hL; subst hQ; simp only [L2, L3, std] at *; try simp only [syS, reduceCtorEq, Int.reduceToNat, Int.reduceAdd, Int.reduceSub] at *)
     omega
   · (subst hL; subst hQ; simp only [L2, L3, std] at *; try simp only [syS, reduceCtorEq, Int.reduceToNat, Int.reduceAdd, Int.reduceSub] at *)
     have := zze hp i
     show zl0 (_ % _)
     rw [show zkd [a, b, c, d] i % 18446744073709551616 = zkd (ipL ⟨a, b, c, d, p⟩) i from Int.emod_eq_of_lt this.1 this.2]
     exact this
   · (subst hL; subst hQ; simp only [L2, L3, std] at *; try simp only [syS, reduceCtorEq, Int.reduceToNat, Int.reduceAdd, Int.reduceSub] at *)
     omega
   · (cbv; try simp only [syT, true_and, and_true])
     (subst hL; subst hQ; simp only [L2, L3, std] at *; try simp only [syS, reduceCtorEq, Int.reduceToNat, Int.reduceAdd, Int.reduceSub] at *)
     refine ⟨fun k j hk hj => ?_, by omega, by show i + 1 <= 4; omega, by show 4 - (i + 1) + 1 <= 4 - i; omega⟩
     by_cases hk' : k < i
     · rw [zhw hk', show k - i = 0 by omega]; rfl
     · have : k = i := by omega
       subst this
       rw [zjy (by omega), show k - k = 0 by omega]
       match j, hj with
       | 0, _ =>
         have := zze hp k
         show AV.str (zd5 (zkd [a, b, c, d] k % 18446744073709551616)) = .str (zd5 (zkd (ipL ⟨a, b, c, d, p⟩) k))
         rw [show zkd [a, b, c, d] k % 18446744073709551616 = zkd (ipL ⟨a, b, c, d, p⟩) k from Int.emod_eq_of_lt this.1 this.2]
   all_goals
     (subst hL; subst hQ; simp only [L2, L3, std] at *; try simp only [syS, reduceCtorEq, Int.reduceToNat, Int.reduceAdd, Int.reduceSub] at *)
     have h4 : i = 4 := by omega
     subst h4
     have l1 := zmf (zze hp 0)
     have l2 := zmf (zze hp 1)
     have l3 := zmf (zze hp 2)
     have l4 := zmf (zze hp 3)
     have hp5 : 0 <= p /\ p <= 65535 := hp.2.2.2.2
     have l5 := zmf (n := p) ⟨hp5.1, by omega⟩
     have hj : jnZ [46] (.lst 1 4 fun i x => AV.str (ipT ⟨a, b, c, d, p⟩ i)) = zd5 a ++ 46 :: (zd5 b ++ 46 :: (zd5 c ++ 46 :: zd5 d)) := yxp ⟨a, b, c, d, p⟩
     have hm : p % 18446744073709551616 = p := by omega
     simp only [zkd, ipL, List.getD_cons_zero, List.getD_cons_succ] at l1 l2 l3 l4
     have hl : (zd5 a ++ 46 :: (zd5 b ++ 46 :: (zd5 c ++ 46 :: zd5 d))).length <= 100 := by
       simp only [List.length_append, List.length_cons]; omega
   · refine ⟨fun k hk => ⟨_, rfl⟩, by omega, ?_⟩
     have : Lib.join (ze9 4 fun i x => AV.str (ipT ⟨a, b, c, d, p⟩ i)) [46] = zd5 a ++ 46 :: (zd5 b ++ 46 :: (zd5 c ++ 46 :: zd5 d)) := hj
     rw [this]; omega
   · rw [hj, List.length_singleton]; omega
   · rw [hm]; exact ⟨hp5.1, by omega⟩
   · rw [hj, hm, List.length_append, List.length_singleton]; omega
   · rw [hj, hm]
     show _ = plT ⟨a, b, c, d, p⟩
     simp [plT]
theorem yly {x : Pl} {a b c d p : Int} (h : x = ⟨a, b, c, d, p⟩) : fits1 (plA std x) (.agg [.int .u8 a, .int .u8 b, .int .u8 c, .int .u8 d, .int .u16 p]) := by
 subst h
 show fits1 (.agg [.int .u8 a, .int .u8 b, .int .u8 c, .int .u8 d, .int .u16 p]) _
 simp only [zdf, ze3, and_self]
def zpm (s : List UInt8) : List (List UInt8) := za9 (ykx s [58]) [46]
def zte (s : List UInt8) : List UInt8 := yfr s [58]
def zmt (s : List UInt8) (k : Nat) : Int := wnV (zc1 (zpm s) k)
def yh1 (s : List UInt8) (k : Nat) : Int := zsl (zc1 (zpm s) k)
def prtO (s : List UInt8) (k : Nat) : Prop := yh1 s k = 0 /\ zmt s k <= 255
def yvu (s : List UInt8) : Prop := yv6 s [58] = true /\ (zpm s).length = 4 /\ (∀ k, k < 4 -> prtO s k) /\ zsl (zte s) = 0 /\ 1 <= wnV (zte s) /\ wnV (zte s) <= 65535
open Classical in
noncomputable def spE (s : List UInt8) : Int := if yvu s then 0 else 4
noncomputable def spP (s : List UInt8) : Pl := if spE s = 0 then ⟨zmt s 0, zmt s 1, zmt s 2, zmt s 3, wnV (zte s)⟩ else ⟨0, 0, 0, 0, 0⟩
theorem zqm {c : UInt8} : ∀ {s : List UInt8} {x : List UInt8}, x ∈ zaf c s -> x.length <= s.length
 | [], x, h => by simp [zaf] at h; subst h; exact Nat.le_refl _
 | y :: s, x, h => by
   have ih := fun x h => zqm (c := c) (s := s) (x := x) h
   unfold zaf at h
   split at h
   · rcases List.mem_cons.1 h with rfl | h
     · exact Nat.zero_le _
     · have := ih x h; simp; omega
   · split at h
     · rename_i z r hs
       rcases List.mem_cons.1 h with rfl | h
       · have := ih z (by rw [hs]; simp); simp; omega
       · have := ih x (by rw [hs]; simp [h]); simp; omega
     · rename_i hs; exact absurd hs (zdh _ _)
theorem ydj (c : UInt8) (s : List UInt8) (k : Nat) : (zc1 (zaf c s) k).length <= s.length := by
 rw [zc1, List.getD_eq_getElem?_getD]
 cases h : (zaf c s)[k]? with
 | none => exact Nat.zero_le _
 | some x => exact zqm (List.mem_of_getElem? h)
theorem ytg (s : List UInt8) : 0 <= wnV s := by
 unfold wnV
 split
 · exact Int.natCast_nonneg _
 · exact Int.le_refl _
theorem ykw (s sep : List UInt8) : (ykx s sep).length <= s.length := by
 unfold ykx
 split
 · exact Nat.le_refl _
 · rw [List.length_take]; omega
theorem ykv (s sep : List UInt8) : (yfr s sep).length <= s.length := by
 unfold yfr
 split
 · exact Nat.zero_le _
 · rw [List.length_drop]; omega
theorem zl6 {s : List UInt8} (h : ¬ yvu s) : fits1 (plA std (spP s)) (.agg [.int .u8 0, .int .u8 0, .int .u8 0, .int .u8 0, .int .u16 0]) /\ 4 = spE s := by
 have e : spE s = 4 := if_neg h
 exact ⟨yly (if_neg (by rw [e]; decide)), e.symm⟩
noncomputable def yoi (L : zab) : zbb := (122, fun xs => match xs with
 | [.str s] => some (L2 L upto 1000000 s, .tup [plA L (L spP s), .int .i64 (L spE s)])
 | _ => none)
def ipZ (s : List UInt8) (i k : Nat) : Int := if k < i then zmt s k else 0
def yt8 (s : List UInt8) (i : Nat) : Prop := i <= 4 /\ ∀ k, k < i -> prtO s k
def parA (L : zab) (s : List UInt8) : Nat -> St -> Option Ann := fun id st => match id with
 | 0 => some ⟨Nat, fun i => [(30, .int .i64 (L za7 i)), (2, .ref 2 0), (4, .ref 4 0)],
     fun i => [(2, .box 25 [.int .u8 0, .int .u8 0, .int .u8 0, .int .u8 0, .int .u16 0]), (4, .box 25 [.int .u8 (L (L2 L ipZ s i) 0), .int .u8 (L (L2 L ipZ s i) 1), .int .u8 (L (L2 L ipZ s i) 2), .int .u8 (L (L2 L ipZ s i) 3), .int .u16 0])], [8, 28, 29], [],
     fun i => L2 L yt8 s i, fun i => L to4 i⟩
 | _ => none
theorem yir : zay Tryz.prog (yoi std) := by
 intro xs p r h hp
 dsimp only [yoi] at h |-
 split at h <;> cases h
 try simp only [L2, L3, std] at hp |-
 rename_i s
 have hp : s.length <= 1000000 := hp
 refine zaa (T := tt) (S := fun L => zam [yqk L, yng L, yau L]) (lo := fun L => parA L s) (lb := noA) 5 (fn := Tryz.f122) rfl rfl (by kernel_rfl) (by kernel_rfl) rfl zac (za2 ⟨yku, yht, yav, trivial⟩) (by kernel_rfl) ?_
 intro L P' Q' hL hP hQ
 have hcl := ykw s [58]
 have hbl := ykv s [58]
 (cbv; try simp only [syT, true_and, and_true])
 refine ⟨?_, ?_, fun h => ?_, fun h1 => ⟨fun h => ?_, fun h2 => ⟨⟨0, ?_⟩, fun i hi => ?_⟩⟩⟩
 · (subst hL; subst hQ; simp only [L2, L3, std] at *; try simp only [syS, reduceCtorEq, Int.reduceToNat, Int.reduceAdd, Int.reduceSub] at *)
   exact ⟨rfl, by show s.length <= _; omega⟩
 · (subst hL; subst hQ; simp only [L2, L3, std] at *; try simp only [syS, reduceCtorEq, Int.reduceToNat, Int.reduceAdd, Int.reduceSub] at *)
   exact ⟨rfl, by show (ykx s [58]).length <= _; omega⟩
 · (subst hL; subst hQ; simp only [L2, L3, std] at *; try simp only [syS, reduceCtorEq, Int.reduceToNat, Int.reduceAdd, Int.reduceSub] at *)
   exact zl6 fun x => by rw [x.1] at h; cases h
 · (subst hL; subst hQ; simp only [L2, L3, std] at *; try simp only [syS, reduceCtorEq, Int.reduceToNat, Int.reduceAdd, Int.reduceSub] at *)
   exact zl6 fun x => h (by have := x.2.1; show ((zpm s).length : Int) = 4; omega)
 · (cbv; try simp only [syT, true_and, and_true])
   (subst hL; subst hQ; simp only [L2, L3, std] at *; try simp only [syS, reduceCtorEq, Int.reduceToNat, Int.reduceAdd, Int.reduceSub] at *)
   exact ⟨rfl, rfl, rfl, rfl, Nat.zero_le _, fun k hk => by omega⟩
 · cbv at hi
   (cbv; try simp only [syT, true_and, and_true])
   have hpl : ∀ k, (zc1 (zpm s) k).length <= 1000000 := fun k => Nat.le_trans (ydj _ _ k) (by omega)
   refine ⟨fun h3 => ⟨?_, ?_, fun h4 => ?_, fun h4 => ⟨fun h5 => ?_, fun h5 => ⟨?_, i + 1, ?_⟩⟩⟩, fun h3 => ⟨?_, fun h4 => ⟨fun h5 => ⟨fun h6 => ?_, fun h6 => ?_⟩, fun h5 => ?_⟩, fun h4 => ?_⟩⟩
   · (subst hL; subst hQ; simp only [L2, L3, std] at *; try simp only [syS, reduceCtorEq, Int.reduceToNat, Int.reduceAdd, Int.reduceSub] at *)
     omega
   · (subst hL; subst hQ; simp only [L2, L3, std] at *; try simp only [syS, reduceCtorEq, Int.reduceToNat, Int.reduceAdd, Int.reduceSub] at *)
     exact hpl i
   · (subst hL; subst hQ; simp only [L2, L3, std] at *; try simp only [syS, reduceCtorEq, Int.reduceToNat, Int.reduceAdd, Int.reduceSub] at *)
     exact zl6 fun x => h4 (x.2.2.1 i (by omega)).1
   · (subst hL; subst hQ; simp only [L2, L3, std] at *; try simp only [syS, reduceCtorEq, Int.reduceToNat, Int.reduceAdd, Int.reduceSub] at *)
     have h5 : 255 < zmt s i := h5
     exact zl6 fun x => by have := (x.2.2.1 i (by omega)).2; omega
   · (subst hL; subst hQ; simp only [L2, L3, std] at *; try simp only [syS, reduceCtorEq, Int.reduceToNat, Int.reduceAdd, Int.reduceSub] at *)
     omega
   · (cbv; try simp only [syT, true_and, and_true])
     (subst hL; subst hQ; simp only [L2, L3, std] at *; try simp only [syS, reduceCtorEq, Int.reduceToNat, Int.reduceAdd, Int.reduceSub] at *)
     have h4 : yh1 s i = 0 := h4
     have h5 : zmt s i <= 255 := h5
     have h0 : 0 <= zmt s i := ytg _
     have hm : wnV (zc1 (za9 (ykx s [58]) [46]) i) % 256 = zmt s i := by
       show zmt s i % 256 = zmt s i
       omega
     rw [hm]
     have cell : ∀ k, (cond (zat i k) (zmt s i) (ipZ s i k)) = ipZ s (i + 1) k := by
       intro k
       by_cases hik : i = k
       · subst hik
         rw [za6, ipZ, ipZ, if_pos (show i < i + 1 by omega)]; rfl
       · rw [zan hik]
         show ipZ s i k = _
         rw [ipZ, ipZ]
         by_cases hlt : k < i
         · rw [if_pos hlt, if_pos (by omega)]
         · rw [if_neg hlt, if_neg (by omega)]
     have hi4 : i < 4 := by omega
     refine ⟨cell 3, cell 2, cell 1, cell 0, by omega, ⟨by omega, fun k hk => ?_⟩, by show 4 - (i + 1) + 1 <= 4 - i; omega⟩
     by_cases hki : k = i
     · rw [hki]; exact ⟨h4, h5⟩
     · exact hi.2 k (by omega)
   · (subst hL; subst hQ; simp only [L2, L3, std] at *; try simp only [syS, reduceCtorEq, Int.reduceToNat, Int.reduceAdd, Int.reduceSub] at *)
     show (yfr s [58]).length <= 1000000
     omega
   all_goals
     (subst hL; subst hQ; simp only [L2, L3, std] at *; try simp only [syS, reduceCtorEq, Int.reduceToNat, Int.reduceAdd, Int.reduceSub] at *)
     have hi4 : i = 4 := by have := hi.1; omega
     subst hi4
   · have hok : yvu s := ⟨h1, by show ye5 (zpm s) = 4; have h2 : ((ye5 (zpm s) : Nat) : Int) = 4 := h2; omega, hi.2, h4, h5, h6⟩
     have hE : spE s = 0 := if_pos hok
     refine ⟨yly ?_, hE.symm⟩
     rw [spP, if_pos hE, show wnV (yfr s [58]) % 65536 = wnV (yfr s [58]) by omega]
     rfl
   · exact zl6 fun x => by have := x.2.2.2.2.2; have h6 : 65535 < wnV (zte s) := h6; omega
   · exact zl6 fun x => by have := x.2.2.2.2.1; have h5 : wnV (zte s) < 1 := h5; omega
   · exact zl6 fun x => h4 x.2.2.2.1
end Sy
end Go.Proofs.YtogpolfhcbgcbaaGreatDoor
namespace Go.Proofs.YtogpolfhcbgcbaaGreatDoor
namespace Sy
open Go Go.RowKit
set_option maxRecDepth 100000
set_option linter.unusedSimpArgs false
set_option linter.unusedVariables false
structure Cx where
 i : Nat
 f : Nat
 q : Nat
def spC (s : List UInt8) (c : Int) : List (List UInt8) := zaf (ub c) s
def cxI (s : List UInt8) (c : Int) (x : Cx) : Prop :=
 (x.i <= s.length /\ x.f <= x.i /\ zaf (ub c) (s.drop x.f) = (spC s c).drop x.q /\ (∀ k, x.f <= k -> k < x.i -> s[k]? ≠ some (ub c)) /\ x.q < (spC s c).length) \/ (x.i = s.length + 1 /\ x.q = (spC s c).length)
def rcA (L : zab) (s : List UInt8) (c : Int) : Nat -> St -> Option Ann := fun id st => match id with
 | 0 => some ⟨Cx, fun x => [(7, .int .i64 (L za7 (L Cx.i x))), (6, .int .i64 (L za7 (L Cx.f x))), (5, .sl 900 1 0 (L Cx.q x))], fun x => [(900, .row 9 1 (L Cx.q x) (fun j _ => .str (L2 L zc1 (L2 L spC s c) j)))], [0, 1], [],
     fun x => L3 L cxI s c x, fun x => L2 L (fun (s : List UInt8) (x : Cx) => s.length + 1 - x.i) s x⟩
 | _ => none
def cOk (c : Int) : Prop := 0 <= c /\ c <= 255
def znf (L : zab) : zbb := (36, fun xs => match xs with
 | [.str s, .int .u8 c] => some (L2 L upto 1000000 s /\ L cOk c, yxk L (L2 L spC s c))
 | _ => none)
theorem ybm {s : List UInt8} {i : Nat} (h : i < s.length) : zhh s (za7 i) = (s[i].toNat : Int) := by
 rw [zhh, za7, Int.toNat_natCast, List.getD_eq_getElem?_getD, List.getElem?_eq_getElem h, Option.getD_some]
theorem yn3 {u : UInt8} {c : Int} (h : cOk c) : (u.toNat : Int) = c ↔ u = ub c := by
 constructor
 · rintro rfl
   apply UInt8.toNat_inj.1
   rw [ub, UInt8.toNat_ofNat', Int.toNat_natCast]
   have := u.toNat_lt; omega
 · rintro rfl
   exact yse h.1 h.2
theorem ylw {s : List UInt8} {c : Int} {x : Cx} (h : cxI s c x) (hi : x.i < s.length) (hc : s[x.i] = ub c) : cxI s c ⟨x.i + 1, x.i + 1, x.q + 1⟩ /\ zc1 (spC s c) x.q = (s.take x.i).drop x.f /\ x.f <= x.i := by
 rcases h with ⟨h1, h2, h3, h4, h5⟩ | ⟨h1, _⟩
 · have e := zi6 (c := ub c) (s := s.drop x.f) (m := x.i - x.f) (fun k hk => by rw [List.getElem?_drop]; exact h4 _ (by omega) (by omega)) (by rw [List.getElem?_drop, show x.f + (x.i - x.f) = x.i by omega, List.getElem?_eq_getElem hi, hc])
   rw [h3, List.drop_drop, show x.f + (x.i - x.f + 1) = x.i + 1 by omega] at e
   rw [List.drop_eq_getElem_cons h5] at e
   obtain ⟨e1, e2⟩ := List.cons.inj e
   refine ⟨.inl ⟨by show x.i + 1 <= _; omega, Nat.le_refl _, e2.symm, fun k hk hk' => by (have : x.i + 1 <= k := hk); (have : k < x.i + 1 := hk'); omega, ?_⟩, ?_, h2⟩
   · show x.q + 1 < _
     have hl := congrArg List.length e2
     have := zap (ub c) (s.drop (x.i + 1))
     rw [List.length_drop] at hl
     omega
   · rw [zc1, List.getD_eq_getElem?_getD, List.getElem?_eq_getElem h5]
     show (spC s c)[x.q] = _
     rw [e1, List.drop_take]
 · omega
theorem ylv {s : List UInt8} {c : Int} {x : Cx} (h : cxI s c x) (hi : x.i = s.length) : cxI s c ⟨x.i + 1, x.i + 1, x.q + 1⟩ /\ zc1 (spC s c) x.q = (s.take x.i).drop x.f /\ x.f <= x.i := by
 rcases h with ⟨h1, h2, h3, h4, h5⟩ | ⟨h1, _⟩
 · have e := zf0 (c := ub c) (s := s.drop x.f) (fun k hk => by
     rw [List.getElem?_drop] at hk
     have := (List.getElem?_eq_some_iff.1 hk).1
     exact h4 (x.f + k) (by omega) (by omega) hk)
   rw [h3, List.drop_eq_getElem_cons h5] at e
   obtain ⟨e1, e2⟩ := List.cons.inj e
   have hl := congrArg List.length e2
   rw [List.length_drop, List.length_nil] at hl
   refine ⟨.inr ⟨by show x.i + 1 = _; omega, by show x.q + 1 = _; omega⟩, ?_, h2⟩
   rw [zc1, List.getD_eq_getElem?_getD, List.getElem?_eq_getElem h5]
   show (spC s c)[x.q] = _
   rw [e1, List.take_of_length_le (by omega)]
 · omega
theorem yo4 {s : List UInt8} {c : Int} {x : Cx} (h : cxI s c x) (hi : x.i < s.length) (hc : s[x.i] ≠ ub c) : cxI s c ⟨x.i + 1, x.f, x.q⟩ := by
 rcases h with ⟨h1, h2, h3, h4, h5⟩ | ⟨h1, _⟩
 · refine .inl ⟨by show x.i + 1 <= _; omega, by show x.f <= x.i + 1; omega, h3, fun k hk hk' => ?_, h5⟩
   by_cases hki : k = x.i
   · rw [hki, List.getElem?_eq_getElem hi]
     exact fun e => hc (Option.some.inj e)
   · have hk' : k < x.i + 1 := hk'
     exact h4 k hk (by omega)
 · omega
theorem ybl (s : List UInt8) (c : Int) : (spC s c).length <= s.length + 1 := by
 rw [spC, zap]
 have := List.count_le_length (a := ub c) (l := s)
 omega
theorem cx_q {s : List UInt8} {c : Int} {x : Cx} (h : cxI s c x) : x.q <= (spC s c).length /\ x.i <= s.length + 1 := by
 rcases h with ⟨h1, h2, h3, h4, h5⟩ | ⟨h1, h2⟩
 · exact ⟨by omega, by omega⟩
 · exact ⟨by omega, by omega⟩
theorem ycw {P : List (List UInt8)} {q : Nat} {t : List UInt8} (h : zc1 P q = t) (i j : Nat) (hi : i < q + 1) (hj : j < 1) : zhc std (zbk i q) (.str (zc1 P i)) (.str (zc1 [t] (i - q))) = .str (zc1 P i) := by
 by_cases hk : i < q
 · rw [zhw hk]; rfl
 · have : i = q := by omega
   subst this
   rw [zjy (by omega), Nat.sub_self, h]; rfl
theorem zib : zay Tryz.prog (znf std) := by
 intro xs p r h hp
 dsimp only [znf] at h |-
 split at h <;> cases h
 try simp only [L2, L3, std] at hp |-
 rename_i s c
 obtain ⟨hp, hc⟩ : s.length <= 1000000 /\ cOk c := hp
 refine zaa (T := tt) (S := noS) (lo := fun L => rcA L s c) (lb := noA) 5 (fn := Tryz.f36) rfl rfl (by kernel_rfl) (by kernel_rfl) rfl zac (zc2 _) (by kernel_rfl) ?_
 intro L P' Q' hL hP hQ
 (cbv; try simp only [syT, true_and, and_true])
 refine ⟨⟨⟨0, 0, 0⟩, ?_⟩, fun x hx => ?_⟩
 · (cbv; try simp only [syT, true_and, and_true])
   (subst hL; subst hQ; simp only [L2, L3, std] at *; try simp only [syS, reduceCtorEq, Int.reduceToNat, Int.reduceAdd, Int.reduceSub] at *)
   exact .inl ⟨Nat.zero_le _, Nat.le_refl _, rfl, fun k _ hk => by (have hk : k < 0 := hk); omega, by rw [spC, zap]; exact Nat.succ_pos _⟩
 · cbv at hx
   (cbv; try simp only [syT, true_and, and_true])
   obtain ⟨i', hi'⟩ : ∃ i', i' = x.i + 1 := ⟨_, rfl⟩
   obtain ⟨q', hq'⟩ : ∃ q', q' = x.q + 1 := ⟨_, rfl⟩
   have hxx : cxI s c x := by
     have h := hx
     rw [hL] at h
     exact h
   have hb := cx_q hxx
   have hsl := ybl s c
   refine ⟨fun h1 => ⟨fun h2 => ⟨?_, ?_, ⟨i', i', q'⟩, ?_⟩, fun h2 => ⟨?_, fun h3 => ⟨?_, ?_, ⟨i', i', q'⟩, ?_⟩, fun h3 => ⟨⟨i', x.f, x.q⟩, ?_⟩⟩⟩, fun h1 => ?_⟩
   · (subst hL; subst hQ; simp only [L2, L3, std] at *; try simp only [syS, reduceCtorEq, Int.reduceToNat, Int.reduceAdd, Int.reduceSub] at *)
     have := (ylv hx (by omega)).2.2
     omega
   · (subst hL; subst hQ; simp only [L2, L3, std] at *; try simp only [syS, reduceCtorEq, Int.reduceToNat, Int.reduceAdd, Int.reduceSub] at *)
     omega
   · (cbv; try simp only [syT, true_and, and_true])
     (subst hL; subst hQ; simp only [L2, L3, std] at *; try simp only [syS, reduceCtorEq, Int.reduceToNat, Int.reduceAdd, Int.reduceSub] at *)
     obtain ⟨r1, r2, r3⟩ := ylv hx (by omega)
     subst hi' hq'
     exact ⟨⟨rfl, ycw r2⟩, rfl, by omega, by omega, r1, by omega⟩
   · (subst hL; subst hQ; simp only [L2, L3, std] at *; try simp only [syS, reduceCtorEq, Int.reduceToNat, Int.reduceAdd, Int.reduceSub] at *)
     omega
   · (subst hL; subst hQ; simp only [L2, L3, std] at *; try simp only [syS, reduceCtorEq, Int.reduceToNat, Int.reduceAdd, Int.reduceSub] at *)
     have hlt : x.i < s.length := by omega
     have := (ylw hx hlt ((yn3 hc).1 (by rw [<- ybm hlt]; exact h3))).2.2
     omega
   · (subst hL; subst hQ; simp only [L2, L3, std] at *; try simp only [syS, reduceCtorEq, Int.reduceToNat, Int.reduceAdd, Int.reduceSub] at *)
     omega
   · (cbv; try simp only [syT, true_and, and_true])
     (subst hL; subst hQ; simp only [L2, L3, std] at *; try simp only [syS, reduceCtorEq, Int.reduceToNat, Int.reduceAdd, Int.reduceSub] at *)
     have hlt : x.i < s.length := by omega
     obtain ⟨r1, r2, r3⟩ := ylw hx hlt ((yn3 hc).1 (by rw [<- ybm hlt]; exact h3))
     subst hi' hq'
     exact ⟨⟨rfl, ycw r2⟩, rfl, by omega, by omega, r1, by omega⟩
   · (cbv; try simp only [syT, true_and, and_true])
     (subst hL; subst hQ; simp only [L2, L3, std] at *; try simp only [syS, reduceCtorEq, Int.reduceToNat, Int.reduceAdd, Int.reduceSub] at *)
     have hlt : x.i < s.length := by omega
     have r1 := yo4 hx hlt (fun e => h3 (by show zhh s (za7 x.i) = c; rw [ybm hlt]; exact (yn3 hc).2 e))
     subst hi' hq'
     exact ⟨by omega, r1, by omega⟩
   · (subst hL; subst hQ; simp only [L2, L3, std] at *; try simp only [syS, reduceCtorEq, Int.reduceToNat, Int.reduceAdd, Int.reduceSub] at *)
     rcases hx with ⟨g1, -⟩ | ⟨g1, g2⟩
     · omega
     · rw [g2]
       show zg4 (.lst 1 (spC s c).length _) _
       rw [zeq]
       exact ⟨rfl, fun i j hi hj => rfl⟩
def okH (s : List UInt8) (k : Nat) : Bool := yoh (zae s k) || (decide (zae s k = 45) && (decide (0 < k) && decide (k + 1 < s.length)))
def ykj (s : List UInt8) (i : Nat) : Prop := i <= s.length /\ ∀ k, k < i -> okH s k = true
def yiv (c : Int) (k n : Nat) : Prop := (97 <= c /\ c <= 122) \/ (48 <= c /\ c <= 57) \/ (c = 45 /\ 0 < k /\ k + 1 < n)
theorem yiu {s : List UInt8} {k : Nat} : okH s k = true ↔ yiv (zae s k) k s.length := by
 simp only [okH, yoh, yjj, yiv, Bool.or_eq_true, Bool.and_eq_true, decide_eq_true_eq, or_assoc]
theorem yub {c : Int} : yuc c = true ↔ (97 <= c /\ c <= 122) \/ (48 <= c /\ c <= 57) \/ c = 45 := by
 simp only [yuc, yoh, yjj, Bool.or_eq_true, Bool.and_eq_true, decide_eq_true_eq, or_assoc]
theorem yk4 {s : List UInt8} {i : Nat} (hi : i < s.length) (h : ¬ yiv (zae s i) i s.length) : zea s = false := by
 unfold yiv at h
 by_cases hc : yuc (zae s i) = true
 · have hc := yub.1 hc
   have h45 : zae s i = 45 := by omega
   by_cases h0 : i = 0
   · subst h0
     unfold zea
     rw [decide_eq_true h45]; simp
   · have hl : i = s.length - 1 := by omega
     unfold zea
     rw [decide_eq_true (show ye8 s = 45 by rw [ye8, <- hl]; exact h45)]; simp
 · unfold zea
   rw [zq8 hi (by simpa using hc)]; simp
theorem zrm {s : List UInt8} {i : Nat} (h : ykj s i) (hi : s.length <= i) : zea s = (decide (0 < s.length) && decide (s.length <= 32)) := by
 have hi' : i = s.length := Nat.le_antisymm h.1 hi
 subst hi'
 by_cases h0 : s = []
 · subst h0; rfl
 · have hp : 0 < s.length := List.length_pos_iff.2 h0
   have a0 := yiu.1 (h.2 0 hp)
   have a1 := yiu.1 (h.2 (s.length - 1) (by omega))
   have hall : yaq yuc s = true := ziv (i := s.length) ⟨Nat.le_refl _, fun k hk => yub.2 (by have := yiu.1 (h.2 k hk); unfold yiv at this; omega)⟩ (Nat.le_refl _)
   unfold yiv at a0 a1
   unfold zea
   rw [hall, decide_eq_false h0, decide_eq_false (show ¬ zae s 0 = 45 by omega), decide_eq_false (show ¬ ye8 s = 45 by unfold ye8; omega), decide_eq_true hp]
   by_cases h32 : 32 < s.length
   · rw [decide_eq_true h32, decide_eq_false (by omega)]; rfl
   · rw [decide_eq_false h32, decide_eq_true (by omega)]; rfl
theorem zzp {s : List UInt8} {i : Nat} (h : ykj s i) (hi : i < s.length) (hf : yiv (zae s i) i s.length) : ykj s (i + 1) :=
 ⟨hi, fun k hk => by
   rcases Nat.lt_succ_iff_lt_or_eq.1 hk with h1 | h1
   · exact h.2 k h1
   · rw [h1]; exact yiu.2 hf⟩
theorem pw {i : Nat} (h1 : (i : Int) <= 1000000) : ((i : Int) + 1 + 9223372036854775808) % 18446744073709551616 - 9223372036854775808 = (i : Int) + 1 := by omega
def zsz (L : zab) : zbb := (46, fun xs => match xs with
 | [.str s] => some (L2 L upto 1000000 s, .bool (L zea s))
 | _ => none)
def yst (L : zab) (s : List UInt8) : Nat -> St -> Option Ann := fun id st => match id with
 | 0 => some ⟨Nat, fun i => [(3, .int .i64 (L za7 i))], fun i => [], [0], [], fun i => L2 L ykj s i, fun i => L2 L toC s i⟩
 | _ => none
theorem zyh : zay Tryz.prog (zsz std) := by
 intro xs p r h hp
 dsimp only [zsz] at h |-
 split at h <;> cases h
 try simp only [L2, L3, std] at hp |-
 rename_i s
 have hp : s.length <= 1000000 := hp
 refine za8 (T := tt) (S := noS) (lo := fun L => yst L s) (lb := noA) 5 (fn := Tryz.f46) (xs := fun L => [.str s]) rfl rfl (by kernel_rfl) (by kernel_rfl) rfl zac (zc2 _) (by kernel_rfl) ?_
 intro L P' Q' hL hP hQ
 (cbv; try simp only [syT, true_and, and_true])
 refine ⟨⟨0, ?_⟩, fun i hi => ?_⟩
 · (cbv; try simp only [syT, true_and, and_true])
   (subst hL; subst hQ; simp only [L2, L3, std] at *; try simp only [syS, reduceCtorEq, Int.reduceToNat, Int.reduceAdd, Int.reduceSub] at *)
   exact ⟨Nat.zero_le _, fun k hk => by omega⟩
 · cbv at hi
   (cbv; try simp only [syT, true_and, and_true])
   repeat' first | refine And.intro ?_ ?_ | refine fun (hh : (_ : Bool) = _) => ?_
   all_goals try (refine ⟨i + 1, ?_⟩; (cbv; try simp only [syT, true_and, and_true]))
   all_goals (subst hL; subst hQ; simp only [L2, L3, std] at *; try simp only [syS, reduceCtorEq, Int.reduceToNat, Int.reduceAdd, Int.reduceSub] at *)
   all_goals have hw := hi.1
   all_goals have hE : zae s i = ((s.getD i 0).toNat : Int) := rfl
   all_goals try simp only [pw (i := i) (by omega), <- hE] at *
   all_goals first
     | (refine ⟨by omega, zzp hi (by omega) (by unfold yiv; omega), ?_⟩
        show s.length - (i + 1) + 1 <= s.length - i
        omega)
     | exact (yk4 (i := i) (by omega) (by unfold yiv; omega)).symm
     | exact ⟨by omega, by omega⟩
     | (rw [zrm hi (by omega), decide_eq_true (show 0 < s.length by omega)]
        show decide ((s.length : Int) <= 32) = _
        rw [Bool.true_and]
        exact decide_eq_decide.2 (by omega))
     | (rw [zrm hi (by omega), decide_eq_false (show ¬ 0 < s.length by omega)]; rfl)
def zpn (l : List (List UInt8)) : List (List UInt8) := if zc1 l 0 = [42] /\ 1 < l.length then l.drop 1 else l
def zdx (s : List UInt8) : Int := if s = [] then 3 else if 64 < s.length then 5 else if (zpn (za9 s [46])).all zea then 0 else 4
def allP3 (l : List (List UInt8)) (i : Nat) : Prop := i <= l.length /\ ∀ k, k < i -> zea (zc1 l k) = true
def toP3 (l : List (List UInt8)) (i : Nat) : Nat := l.length - i
theorem zsb {l : List (List UInt8)} {i : Nat} (h : allP3 l i) (hi : l.length <= i) : l.all zea = true := by
 rw [List.all_eq_true]
 intro b hb
 obtain ⟨k, hk, rfl⟩ := List.getElem_of_mem hb
 have := h.2 k (by omega)
 rwa [zc1, List.getD_eq_getElem?_getD, List.getElem?_eq_getElem hk] at this
theorem zxm {l : List (List UInt8)} {i : Nat} (hi : i < l.length) (h : zea (zc1 l i) = false) : l.all zea = false := by
 rw [List.all_eq_false]
 refine ⟨l[i], List.getElem_mem hi, ?_⟩
 rw [zc1, List.getD_eq_getElem?_getD, List.getElem?_eq_getElem hi] at h
 have h : zea l[i] = false := h
 rw [h]; decide
theorem yev {l : List (List UInt8)} (h1 : zc1 l 0 = [42]) (h2 : 1 < l.length) : (zpn l).length = l.length - 1 /\ ∀ i, zc1 (zpn l) i = zc1 l (Nat.add 1 i) := by
 rw [zpn, if_pos ⟨h1, h2⟩]
 refine ⟨by simp, fun i => ?_⟩
 rw [zc1, zc1, List.getD_eq_getElem?_getD, List.getD_eq_getElem?_getD, List.getElem?_drop]; rfl
theorem yeu {s : List UInt8} (h1 : ¬ s = []) (h2 : s.length <= 64) (h : (zpn (za9 s [46])).all zea = true) : zdx s = 0 := by rw [zdx, if_neg h1, if_neg (by omega), if_pos h]
theorem yet {s : List UInt8} (h1 : ¬ s = []) (h2 : s.length <= 64) (h : (zpn (za9 s [46])).all zea = false) : zdx s = 4 := by rw [zdx, if_neg h1, if_neg (by omega), if_neg (by rw [h]; decide)]
theorem ybj (s : List UInt8) : 0 < (za9 s [46]).length /\ (za9 s [46]).length <= s.length + 1 := by
 have := ybl s 46
 have e : (spC s 46).length = (za9 s [46]).length := rfl
 refine ⟨?_, by omega⟩
 rw [za9, zap]; exact Nat.succ_pos _
end Sy
end Go.Proofs.YtogpolfhcbgcbaaGreatDoor
namespace Go.Proofs.YtogpolfhcbgcbaaGreatDoor
namespace Sy
open Go Go.RowKit
end Sy
end Go.Proofs.YtogpolfhcbgcbaaGreatDoor
namespace Go.Proofs.YtogpolfhcbgcbaaGreatDoor
namespace Sy
open Go Go.RowKit
set_option maxRecDepth 100000
set_option linter.unusedSimpArgs false
set_option linter.unusedVariables false
def zk6 (a b : List UInt8) : Bool := a.take b.length == b
def zqy (a b : List UInt8) : Prop := a.length <= 1000000000 /\ b.length <= 1000000000
def zvn (L : zab) : zbb := (55, fun xs => match xs with | [.str a, .str b] => some (L2 L zqy a b, .bool (L2 L zk6 a b)) | _ => none)
def yio (L : zab) : zbb := (31, fun xs => match xs with | [.str a, .str b] => some (L2 L zqy a b, .bool (L2 L zk6 a b)) | _ => none)
theorem zqz : zay Tryz.prog (zvn std) := by
 intro xs p r h hp
 dsimp only [zvn] at h |-
 split at h <;> cases h
 try simp only [L2, L3, std] at hp |-
 rename_i a b
 refine zaa (T := tt) (S := noS) (lo := noA) (lb := noA) 5 (fn := Tryz.f55) rfl rfl (by kernel_rfl) (by kernel_rfl) rfl zac (zc2 _) (by kernel_rfl) ?_
 (intro L P1 Q1 hL hP hQ; cbv; subst hL; simp only [L2, L3, std, syT]; subst hQ)
 (simp only [syS, reduceCtorEq, Int.reduceToNat, Int.reduceAdd, Int.reduceSub])
 exact ⟨fun h => ⟨by omega, rfl⟩, fun h => by
   have : ¬ a.take b.length = b := fun e => by have := congrArg List.length e; simp at this; omega
   simp [zk6, this]⟩
theorem zvm : zay Tryz.prog (yio std) := by
 intro xs p r h hp
 dsimp only [yio] at h |-
 split at h <;> cases h
 try simp only [L2, L3, std] at hp |-
 rename_i a b
 refine zaa (T := tt) (S := fun L => zam [zvn L]) (lo := noA) (lb := noA) 5 (fn := Tryz.f31) rfl rfl (by kernel_rfl) (by kernel_rfl) rfl zac (za2 ⟨zqz, trivial⟩) (by kernel_rfl) ?_
 (intro L P1 Q1 hL hP hQ; cbv; subst hL; simp only [L2, L3, std, syT]; subst hQ)
 (simp only [syS, reduceCtorEq, Int.reduceToNat, Int.reduceAdd, Int.reduceSub])
 exact hp
def yvx (l : List (List UInt8)) (k : Nat) : Prop := zea (zc1 l k) = true \/ (zc1 l k = [42] /\ k = 0 /\ 1 < l.length)
def yii (l : List (List UInt8)) (i : Nat) : Prop := i <= l.length /\ ∀ k, k < i -> yvx l k
theorem yx1 {s : List UInt8} {i : Nat} (h1 : ¬ s = []) (h2 : s.length <= 64) (hi : i < (za9 s [46]).length) (h : ¬ yvx (za9 s [46]) i) : zdx s = 4 := by
 unfold yvx at h
 have hf : zea (zc1 (za9 s [46]) i) = false := by
   cases hc : zea (zc1 (za9 s [46]) i) with
   | false => rfl
   | true => exact absurd (.inl hc) h
 by_cases hs : zc1 (za9 s [46]) 0 = [42] /\ 1 < (za9 s [46]).length
 · obtain ⟨A1, A2⟩ := yev hs.1 hs.2
   have hi0 : i ≠ 0 := by
     rintro rfl
     exact h (.inr ⟨hs.1, rfl, hs.2⟩)
   refine yet h1 h2 (zxm (i := i - 1) (by omega) ?_)
   rw [A2]
   show zea (zc1 (za9 s [46]) (1 + (i - 1))) = false
   rw [show 1 + (i - 1) = i by omega]
   exact hf
 · have B0 : zpn (za9 s [46]) = za9 s [46] := if_neg hs
   refine yet h1 h2 ?_
   rw [B0]
   exact zxm hi hf
theorem ysy {s : List UInt8} {i : Nat} (h1 : ¬ s = []) (h2 : s.length <= 64) (h : yii (za9 s [46]) i) (hi : (za9 s [46]).length <= i) : zdx s = 0 := by
 have hi' : i = (za9 s [46]).length := Nat.le_antisymm h.1 hi
 subst hi'
 have h42 : zea [42] = false := by decide
 by_cases hs : zc1 (za9 s [46]) 0 = [42] /\ 1 < (za9 s [46]).length
 · obtain ⟨A1, A2⟩ := yev hs.1 hs.2
   refine yeu h1 h2 (zsb (i := (za9 s [46]).length - 1) ⟨by omega, fun k hk => ?_⟩ (by omega))
   rw [A2]
   rcases h.2 (1 + k) (by omega) with q | q
   · exact q
   · exact absurd q.2.1 (by omega)
 · have B0 : zpn (za9 s [46]) = za9 s [46] := if_neg hs
   refine yeu h1 h2 ?_
   rw [B0]
   refine zsb (i := (za9 s [46]).length) ⟨Nat.le_refl _, fun k hk => ?_⟩ (Nat.le_refl _)
   rcases h.2 k hk with q | q
   · exact q
   · obtain ⟨q1, rfl, q3⟩ := q
     exact absurd ⟨q1, q3⟩ hs
theorem ycn {l : List (List UInt8)} {i : Nat} (h : yii l i) (hi : i < l.length) (hf : yvx l i) : yii l (i + 1) :=
 ⟨hi, fun k hk => by
   rcases Nat.lt_succ_iff_lt_or_eq.1 hk with h1 | h1
   · exact h.2 k h1
   · rw [h1]; exact hf⟩
def ysx (L : zab) (s : List UInt8) : Nat -> St -> Option Ann := fun id st => match id with
 | 0 => some ⟨Nat, fun i => [(16, .int .i64 (L za7 i))], fun i => [], [3, 14, 15], [], fun i => L2 L yii (L2 L spC s 46) i, fun i => L2 L toP3 (L2 L spC s 46) i⟩
 | _ => none
def cpT (a b : List UInt8) : List UInt8 := if zk6 a b = true then a.drop b.length else a
def yna (a b : List UInt8) : Bool := decide (b.length <= a.length) && decide (a.drop (a.length - b.length) = b)
def yqo (L : zab) : zbb := (68, fun xs => match xs with | [.str a, .str b] => some (L2 L zqy a b, .tup [.str (L2 L cpT a b), .bool (L2 L zk6 a b)]) | _ => none)
def cp_s (L : zab) : zbb := (49, fun xs => match xs with | [.str a, .str b] => some (L2 L zqy a b, .tup [.str (L2 L cpT a b), .bool (L2 L zk6 a b)]) | _ => none)
def ynn (L : zab) : zbb := (69, fun xs => match xs with | [.str a, .str b] => some (L2 L zqy a b, .bool (L2 L yna a b)) | _ => none)
def ywu (L : zab) : zbb := (50, fun xs => match xs with | [.str a, .str b] => some (L2 L zqy a b, .bool (L2 L yna a b)) | _ => none)
theorem yod {a b : List UInt8} (h : zk6 a b = true) : b.length <= a.length := by
 have h : a.take b.length = b := by simpa [zk6] using h
 have := congrArg List.length h
 simp at this
 omega
theorem ykz : zay Tryz.prog (yqo std) := by
 intro xs p r h hp
 dsimp only [yqo] at h |-
 split at h <;> cases h
 try simp only [L2, L3, std] at hp |-
 rename_i a b
 obtain ⟨p1, p2⟩ : zqy a b := hp
 refine zaa (T := tt) (S := fun L => zam [zvn L]) (lo := noA) (lb := noA) 5 (fn := Tryz.f68) rfl rfl (by kernel_rfl) (by kernel_rfl) rfl zac (za2 ⟨zqz, trivial⟩) (by kernel_rfl) ?_
 (intro L P1 Q1 hL hP hQ; cbv; subst hL; simp only [L2, L3, std, syT]; subst hQ)
 (simp only [syS, reduceCtorEq, Int.reduceToNat, Int.reduceAdd, Int.reduceSub])
 refine ⟨⟨p1, p2⟩, fun h => ⟨(if_neg (by rw [h]; decide)).symm, h.symm⟩, fun h => ⟨⟨by omega, ?_⟩, (if_pos h).symm, h.symm⟩⟩
 have := yod h
 omega
theorem yqn : zay Tryz.prog (cp_s std) := by
 intro xs p r h hp
 dsimp only [cp_s] at h |-
 split at h <;> cases h
 try simp only [L2, L3, std] at hp |-
 rename_i a b
 refine zaa (T := tt) (S := fun L => zam [yqo L]) (lo := noA) (lb := noA) 5 (fn := Tryz.f49) rfl rfl (by kernel_rfl) (by kernel_rfl) rfl zac (za2 ⟨ykz, trivial⟩) (by kernel_rfl) ?_
 (intro L P1 Q1 hL hP hQ; cbv; subst hL; simp only [L2, L3, std, syT]; subst hQ)
 (simp only [syS, reduceCtorEq, Int.reduceToNat, Int.reduceAdd, Int.reduceSub])
 exact hp
theorem yhu : zay Tryz.prog (ynn std) := by
 intro xs p r h hp
 dsimp only [ynn] at h |-
 split at h <;> cases h
 try simp only [L2, L3, std] at hp |-
 rename_i a b
 obtain ⟨p1, p2⟩ : zqy a b := hp
 refine zaa (T := tt) (S := noS) (lo := noA) (lb := noA) 5 (fn := Tryz.f69) rfl rfl (by kernel_rfl) (by kernel_rfl) rfl zac (zc2 _) (by kernel_rfl) ?_
 (intro L P1 Q1 hL hP hQ; cbv; subst hL; simp only [L2, L3, std, syT]; subst hQ)
 (simp only [syS, reduceCtorEq, Int.reduceToNat, Int.reduceAdd, Int.reduceSub])
 refine ⟨fun h => ?_, fun h => ?_⟩
 · have e : ((a.length : Int) - b.length + 9223372036854775808) % 18446744073709551616 - 9223372036854775808 = ((a.length - b.length : Nat) : Int) := by omega
   rw [e, Int.toNat_natCast]
   refine ⟨⟨by omega, by omega⟩, ?_⟩
   unfold yna seq
   rw [decide_eq_true (show b.length <= a.length by omega)]
   simp [Bool.beq_eq_decide_eq]
 · unfold yna
   rw [decide_eq_false (show ¬ b.length <= a.length by omega)]; rfl
theorem ynm : zay Tryz.prog (ywu std) := by
 intro xs p r h hp
 dsimp only [ywu] at h |-
 split at h <;> cases h
 try simp only [L2, L3, std] at hp |-
 rename_i a b
 refine zaa (T := tt) (S := fun L => zam [ynn L]) (lo := noA) (lb := noA) 5 (fn := Tryz.f50) rfl rfl (by kernel_rfl) (by kernel_rfl) rfl zac (za2 ⟨yhu, trivial⟩) (by kernel_rfl) ?_
 (intro L P1 Q1 hL hP hQ; cbv; subst hL; simp only [L2, L3, std, syT]; subst hQ)
 (simp only [syS, reduceCtorEq, Int.reduceToNat, Int.reduceAdd, Int.reduceSub])
 exact hp
def zsm (a b : List UInt8) : Bool := decide (zbi a = zbi b) || (zk6 (zbi a) [42, 46] && (!decide (cpT (zbi a) [42, 46] = []) && (decide ((cpT (zbi a) [42, 46]).length + 1 < (zbi b).length) && yna (zbi b) (46 :: cpT (zbi a) [42, 46]))))
def yv8 (a b : List UInt8) : Prop := a.length <= 1000000 /\ b.length <= 1000000
def yl0 (L : zab) : zbb := (28, fun xs => match xs with | [.str a, .str b] => some (L2 L yv8 a b, .bool (L2 L zsm a b)) | _ => none)
theorem zxc : zay Tryz.prog (yl0 std) := by
 intro xs p r h hp
 dsimp only [yl0] at h |-
 split at h <;> cases h
 try simp only [L2, L3, std] at hp |-
 rename_i a b
 obtain ⟨p1, p2⟩ : yv8 a b := hp
 refine zaa (T := tt) (S := fun L => zam [zts L, cp_s L, ywu L]) (lo := noA) (lb := noA) 5 (fn := Tryz.f28) rfl rfl (by kernel_rfl) (by kernel_rfl) rfl zac (za2 ⟨zz9, yqn, ynm, trivial⟩) (by kernel_rfl) ?_
 (intro L P1 Q1 hL hP hQ; cbv; subst hL; simp only [L2, L3, std, syT]; subst hQ)
 (simp only [syS, reduceCtorEq, Int.reduceToNat, Int.reduceAdd, Int.reduceSub])
 have la : (zbi a).length = a.length := List.length_map _
 have lb : (zbi b).length = b.length := List.length_map _
 have lc : (cpT (zbi a) [42, 46]).length <= (zbi a).length := by
   unfold cpT
   split
   · rw [List.length_drop]; omega
   · omega
 have e : ((cpT (zbi a) [42, 46]).length : Int) + 1 = (((cpT (zbi a) [42, 46]).length + 1 : Nat) : Int) := by omega
 refine ⟨by show a.length <= _; omega, by show b.length <= _; omega, fun h => ?_, fun h => ⟨⟨by omega, by decide⟩, fun h2 => ⟨fun h3 => ⟨fun h4 => ⟨by simp; omega, ⟨by omega, by simp; omega⟩, ?_⟩, fun h4 => ?_⟩, fun h3 => ?_⟩, fun h2 => ?_⟩⟩
 · unfold zsm; rw [decide_eq_true h]; rfl
 · unfold zsm
   rw [decide_eq_false h, h2, decide_eq_false h3, decide_eq_true (by omega)]; rfl
 · unfold zsm
   rw [decide_eq_false h, h2, decide_eq_false h3, decide_eq_false (show ¬ (cpT (zbi a) [42, 46]).length + 1 < (zbi b).length by omega)]; rfl
 · unfold zsm
   rw [decide_eq_false h, h2, decide_eq_true h3]; rfl
 · unfold zsm
   rw [decide_eq_false h, h2]; rfl
theorem ya8 : zad Tryz.prog 43 [] (.bool true) := by
 refine zaa (T := tt) (S := fun L => zam [yl0 L, ydm L]) (lo := noA) (lb := noA) 5 (fn := Tryz.f43) rfl rfl (by kernel_rfl) (by kernel_rfl) rfl zac (za2 ⟨zxc, ydn, trivial⟩) (by kernel_rfl) ?_
 (intro L P1 Q1 hL hP hQ; cbv; subst hL; simp only [L2, L3, std, syT]; subst hQ)
 (simp only [syS, reduceCtorEq, Int.reduceToNat, Int.reduceAdd, Int.reduceSub])
 have e1 : zsm [42, 46, 97, 46, 98] [120, 46, 121, 46, 97, 46, 98] = true := by decide +kernel
 have e2 : zsm [42, 46, 97, 46, 98] [97, 46, 98] = false := by decide +kernel
 have e3 : zr5 [119, 101, 98, 45, 49] = true := by decide +kernel
 rw [e1, e2, e3]
 exact ⟨⟨by decide, by decide⟩, fun _ => ⟨⟨by decide, by decide⟩, fun _ => rfl, by decide⟩, by decide⟩
def ywb (s t : List UInt8) : Bool := Lib.contains s t
def yqp (L : zab) : zbb := (47, fun xs => match xs with | [.str s, .str t] => some (L2 L upto 1000000000 s, .bool (L2 L ywb s t)) | _ => none)
theorem yrb (b : Bool) : ∀ (h : Array Obj) (D : Nat -> Prop), R h D zav (.bool b) (.bool b) := fun _ _ => .bool _
theorem yl3 : zay Tryz.prog (yqp std) := by
 intro xs p r h hp
 dsimp only [yqp] at h |-
 split at h <;> cases h
 try simp only [L2, L3, std] at hp |-
 rename_i s t
 have hp : s.length <= 1000000000 := hp
 refine zgv (fn := Tryz.f47) rfl rfl (by kernel_rfl) (yab (zcw _) (zcw _)) (fun w hg => ?_)
 obtain ⟨m, hm⟩ := hg.2.2.2.2 0 (by kernel_rfl)
 refine (Tryz.strings_Contains ⟨s.toArray⟩ ⟨t.toArray⟩ m w (by show s.toArray.size < _; rw [List.size_toArray]; omega) hm).mono ?_
 rintro e w' ⟨rfl, rfl⟩
 exact ⟨_, rfl, Below.refl _ _, yrb _⟩
def yv4 (s : List UInt8) : Prop := ∃ j, j + 1 < s.length /\ zae s j = 47 /\ zae s (j + 1) = 47
theorem occ2 (s : List UInt8) (j : Nat) : Lib.occAt s [47, 47] j = true ↔ j + 1 < s.length /\ zae s j = 47 /\ zae s (j + 1) = 47 := by
 unfold Lib.occAt
 rw [List.isPrefixOf_iff_prefix]
 have hb : ∀ k, k < s.length -> (zae s k = 47 ↔ s[k]? = some 47) := by
   intro k hk
   rw [zfd hk, List.getElem?_eq_getElem hk]
   constructor
   · intro h
     have : s[k] = 47 := UInt8.toNat_inj.1 (by show s[k].toNat = 47; omega)
     rw [this]
   · intro h
     rw [Option.some.inj h]; rfl
 constructor
 · rintro ⟨r, hr⟩
   have hl := congrArg List.length hr
   simp at hl
   have h0 : s[j]? = some 47 := by
     have := congrArg (fun l => l[0]?) hr
     simp [List.getElem?_drop] at this
     exact this.symm
   have h1 : s[j + 1]? = some 47 := by
     have := congrArg (fun l => l[1]?) hr
     simp [List.getElem?_drop] at this
     exact this.symm
   exact ⟨by omega, (hb j (by omega)).2 h0, (hb (j + 1) (by omega)).2 h1⟩
 · rintro ⟨h, h0, h1⟩
   have h0 := (hb j (by omega)).1 h0
   have h1 := (hb (j + 1) h).1 h1
   refine ⟨s.drop (j + 2), ?_⟩
   rw [List.drop_eq_getElem_cons (i := j) (by omega), List.drop_eq_getElem_cons (i := j + 1) h]
   rw [List.getElem?_eq_getElem (by omega)] at h0 h1
   rw [Option.some.inj h0, Option.some.inj h1]; rfl
theorem yft {s : List UInt8} : ywb s [47, 47] = true ↔ yv4 s := by
 unfold ywb Lib.contains
 rw [decide_eq_true_eq]
 rcases Lib.index_spec s [47, 47] with ⟨h1, h2⟩ | ⟨i, h1, h2, h3, h4⟩
 · rw [h1]
   refine ⟨fun h => absurd h (by decide), fun ⟨j, hj⟩ => ?_⟩
   have := h2 j (by omega)
   rw [(occ2 s j).2 hj] at this
   cases this
 · rw [h1]
   exact ⟨fun _ => ⟨i, (occ2 s i).1 h3⟩, fun _ => Int.natCast_nonneg _⟩
def yh0 (c : Int) : Bool := decide (33 <= c) && decide (c <= 126)
open Classical in
noncomputable def zgd (s : List UInt8) : Int := if zk6 s [47] = false \/ yv4 s \/ yaq yh0 s = false then 4 else if 128 < s.length then 5 else 0
noncomputable def yd8 (L : zab) : zbb := (27, fun xs => match xs with | [.str s] => some (L2 L upto 1000000000 s, .int .i64 (L zgd s)) | _ => none)
def yx7 (L : zab) (s : List UInt8) : Nat -> St -> Option Ann := fun id st => match id with
 | 0 => some ⟨Nat, fun i => [(13, .int .i64 (L za7 i))], fun i => [], [0, 12], [], fun i => L (L2 L zpr yh0 s) i, fun i => L2 L toC s i⟩
 | _ => none
theorem yd9 : zay Tryz.prog (yd8 std) := by
 intro xs p r h hp
 dsimp only [yd8] at h |-
 split at h <;> cases h
 try simp only [L2, L3, std] at hp |-
 rename_i s
 have hp : s.length <= 1000000000 := hp
 refine za8 (T := tt) (S := fun L => zam [yio L, yqp L]) (lo := fun L => yx7 L s) (lb := noA) 5 (fn := Tryz.f27) (xs := fun L => [.str s]) rfl rfl (by kernel_rfl) (by kernel_rfl) rfl zac (za2 ⟨zvm, yl3, trivial⟩) (by kernel_rfl) ?_
 intro L P' Q' hL hP hQ
 (cbv; try simp only [syT, true_and, and_true])
 repeat' first | refine And.intro ?_ ?_ | refine fun (hh : (_ : Bool) = _) => ?_
 all_goals try (refine ⟨0, ?_⟩; (cbv; try simp only [syT, true_and, and_true]))
 all_goals try
   (intro i hi2
    have hi : zpr yh0 s i := by
      have h := hi2
      rw [hL] at h
      exact h
    clear hi2
    (cbv; try simp only [syT, true_and, and_true])
    repeat' first | refine And.intro ?_ ?_ | refine fun (hh : (_ : Bool) = _) => ?_
    all_goals try (refine ⟨i + 1, ?_⟩; (cbv; try simp only [syT, true_and, and_true])))
 all_goals (subst hL; subst hQ; simp only [L2, L3, std] at *; try simp only [syS, reduceCtorEq, Int.reduceToNat, Int.reduceAdd, Int.reduceSub] at *)
 all_goals have hcd : ywb s [47, 47] = false -> ¬ yv4 s := fun h h2 => by rw [yft.2 h2] at h; cases h
 all_goals have hE : ∀ k, zae s k = ((s.getD k 0).toNat : Int) := fun _ => rfl
 all_goals first
   | exact ⟨by omega, by decide⟩
   | exact (if_pos (.inl (by assumption))).symm
   | exact hp
   | exact (if_pos (.inr (.inl (yft.1 (by assumption))))).symm
   | exact yf6 _ _
   | exact ⟨by omega, by omega⟩
   | (refine (if_pos (.inr (.inr (zq8 (i := i) (by omega) ?_)))).symm
      rw [yh0, hE]
      first
        | (rw [decide_eq_false (by omega)]; rfl)
        | (rw [Bool.and_eq_false_iff]; exact .inr (decide_eq_false (by omega))))
   | (refine ⟨by omega, zo3 hi (by omega) ?_, ?_⟩
      · rw [yh0, hE, Bool.and_eq_true, decide_eq_true_eq, decide_eq_true_eq]; exact ⟨by omega, by omega⟩
      · show s.length - (i + 1) + 1 <= s.length - i
        omega)
   | (have ha := ziv hi (by omega)
      have hn : ¬ (zk6 s [47] = false \/ yv4 s \/ yaq yh0 s = false) := by
        have q1 : zk6 s [47] = true := by assumption
        have q2 := hcd (by assumption)
        rintro (q | q | q)
        · rw [q1] at q; cases q
        · exact q2 q
        · rw [ha] at q; cases q
      rw [zgd, if_neg hn]
      first
        | exact (if_pos (show 128 < s.length by omega)).symm
        | exact (if_neg (show ¬ 128 < s.length by omega)).symm)
end Sy
end Go.Proofs.YtogpolfhcbgcbaaGreatDoor
namespace Go.Proofs.YtogpolfhcbgcbaaGreatDoor
namespace Sy
open Go Go.RowKit
set_option maxRecDepth 100000
set_option linter.unusedSimpArgs false
set_option linter.unusedVariables false
def okR (s : List UInt8) (k : Nat) : Prop := (33 <= zae s k /\ zae s k <= 126) /\ ¬ (0 < k /\ zae s k = 47 /\ zae s (k - 1) = 47)
def yki (s : List UInt8) (i : Nat) : Prop := i <= s.length /\ ∀ k, k < i -> okR s k
theorem pre1 {s : List UInt8} : zk6 s [47] = true ↔ 0 < s.length /\ zae s 0 = 47 := by
 cases s with
 | nil => exact ⟨fun h => (by cases h), fun h => absurd h.1 (by decide)⟩
 | cons b r =>
   have e : zk6 (b :: r) [47] = (b == 47) := by simp [zk6]
   have f : zae (b :: r) 0 = (b.toNat : Int) := rfl
   rw [e, f, beq_iff_eq]
   refine ⟨fun h => ⟨by simp, by rw [h]; rfl⟩, fun h => UInt8.toNat_inj.1 (by show b.toNat = 47; omega)⟩
theorem zp2 {s : List UInt8} (h : zk6 s [47] = false \/ yv4 s \/ yaq yh0 s = false) : zgd s = 4 := if_pos h
theorem ywy {s : List UInt8} {i : Nat} (hi : i < s.length) (h : ¬ okR s i) : zgd s = 4 := by
 unfold okR at h
 by_cases h1 : 33 <= zae s i /\ zae s i <= 126
 · have h2 : 0 < i /\ zae s i = 47 /\ zae s (i - 1) = 47 := Classical.byContradiction fun q => h ⟨h1, q⟩
   refine zp2 (.inr (.inl ⟨i - 1, by omega, h2.2.2, ?_⟩))
   rw [show i - 1 + 1 = i by omega]
   exact h2.2.1
 · refine zp2 (.inr (.inr (zq8 hi ?_)))
   unfold yh0
   rw [Bool.and_eq_false_iff, decide_eq_false_iff_not, decide_eq_false_iff_not]
   omega
theorem ysu {s : List UInt8} {i : Nat} (h0 : 0 < s.length) (h1 : zae s 0 = 47) (h : yki s i) (hi : s.length <= i) : zgd s = if 128 < s.length then 5 else 0 := by
 have hi' : i = s.length := Nat.le_antisymm h.1 hi
 subst hi'
 have ha : yaq yh0 s = true := ziv (i := s.length) ⟨Nat.le_refl _, fun k hk => by
   have := (h.2 k hk).1
   unfold yh0
   rw [Bool.and_eq_true, decide_eq_true_eq, decide_eq_true_eq]
   exact this⟩ (Nat.le_refl _)
 refine if_neg ?_
 rintro (q | ⟨j, q1, q2, q3⟩ | q)
 · rw [pre1.2 ⟨h0, h1⟩] at q; cases q
 · exact (h.2 (j + 1) q1).2 ⟨by omega, q3, q2⟩
 · rw [ha] at q; cases q
theorem ynx {s : List UInt8} {i : Nat} (h : yki s i) (hi : i < s.length) (hf : okR s i) : yki s (i + 1) :=
 ⟨hi, fun k hk => by
   rcases Nat.lt_succ_iff_lt_or_eq.1 hk with h1 | h1
   · exact h.2 k h1
   · rw [h1]; exact hf⟩
theorem pj {i : Nat} (h : 0 < i) (h1 : (i : Int) <= 1000000000) : ((i : Int) - 1 + 9223372036854775808) % 18446744073709551616 - 9223372036854775808 = ((i - 1 : Nat) : Int) := by omega
noncomputable def zsy (L : zab) : zbb := (8, fun xs => match xs with | [.str s] => some (L2 L upto 1000000000 s, .int .i64 (L zgd s)) | _ => none)
def yss (L : zab) (s : List UInt8) : Nat -> St -> Option Ann := fun id st => match id with
 | 0 => some ⟨Nat, fun i => [(3, .int .i64 (L za7 i))], fun i => [], [0], [], fun i => L2 L yki s i, fun i => L2 L toC s i⟩
 | _ => none
theorem zyg : zay Tryz.prog (zsy std) := by
 intro xs p r h hp
 dsimp only [zsy] at h |-
 split at h <;> cases h
 try simp only [L2, L3, std] at hp |-
 rename_i s
 have hp : s.length <= 1000000000 := hp
 refine za8 (T := tt) (S := noS) (lo := fun L => yss L s) (lb := noA) 5 (fn := Tryz.f8) (xs := fun L => [.str s]) rfl rfl (by kernel_rfl) (by kernel_rfl) rfl zac (zc2 _) (by kernel_rfl) ?_
 intro L P' Q' hL hP hQ
 (cbv; try simp only [syT, true_and, and_true])
 repeat' first | refine And.intro ?_ ?_ | refine fun (hh : (_ : Bool) = _) => ?_
 all_goals try (refine ⟨0, ?_⟩; (cbv; try simp only [syT, true_and, and_true]))
 all_goals try
   (intro i hi
    cbv at hi
    (cbv; try simp only [syT, true_and, and_true])
    repeat' first | refine And.intro ?_ ?_ | refine fun (hh : (_ : Bool) = _) => ?_
    all_goals try (refine ⟨i + 1, ?_⟩; (cbv; try simp only [syT, true_and, and_true])))
 all_goals (subst hL; subst hQ; simp only [L2, L3, std] at *; try simp only [syS, reduceCtorEq, Int.reduceToNat, Int.reduceAdd, Int.reduceSub] at *)
 all_goals have hE : ∀ k, zae s k = ((s.getD k 0).toNat : Int) := fun _ => rfl
 all_goals try
   (have g0 : ¬ ((s.length : Nat) : Int) = 0 := by assumption
    have g1 : ((s.getD 0 0).toNat : Int) = 47 := by assumption)
 all_goals try
   (have g2 : 0 < (i : Int) := by assumption
    have g3 : (i : Int) < s.length := by assumption
    have g4 := pj (i := i) (by omega) (by omega)
    simp only [g4, Int.toNat_natCast] at *)
 all_goals first
   | (refine (zp2 (.inl ?_)).symm
      cases hq : zk6 s [47] with
      | false => rfl
      | true =>
        have q := pre1.1 hq
        rw [hE] at q
        omega)
   | exact ⟨Nat.zero_le _, fun k hk => by omega⟩
   | exact ⟨by omega, by omega⟩
   | (refine (ywy (i := i) (by omega) ?_).symm
      unfold okR
      simp only [hE]
      omega)
   | (refine ⟨by omega, ynx hi (by omega) ?_, ?_⟩
      · unfold okR
        simp only [hE]
        omega
      · show s.length - (i + 1) + 1 <= s.length - i
        omega)
   | (rw [ysu (by omega) (by rw [hE]; exact g1) hi (by omega)]
      first
        | exact (if_pos (show 128 < s.length by omega)).symm
        | exact (if_neg (show ¬ 128 < s.length by omega)).symm)
end Sy
end Go.Proofs.YtogpolfhcbgcbaaGreatDoor
namespace Go.Proofs.YtogpolfhcbgcbaaGreatDoor
namespace Sy
open Go Go.RowKit
set_option linter.unusedVariables false
def DW (W : World) : Nat -> Prop := fun b => b < W.heap.size
structure zex {H : Type} (enc : TypeId × Value -> H) (P : Program) (W : World) (t : TypeId) (α : Type) (sz : Nat) (av : α -> Nat -> AV) (ok : α -> Prop) : Prop where
 size : P.cellsOf t = sz
 go : ∀ fuel cs x, DataW.trod enc P W 0 (fun _ => true) true fuel t cs = some x -> ∃ y : α, ok y /\ cs.length = sz /\ ∀ j, j < sz -> ∃ v, cs[j]? = some v /\ one v /\ R W.heap (DW W) zav (av y j) v
structure zxn {H : Type} (enc : TypeId × Value -> H) (P : Program) (W : World) (fs : List Field) (off : Nat) (α : Type) (sz : Nat) (av : α -> Nat -> AV) (ok : α -> Prop) : Prop where
 go : ∀ fuel (cs : List Value) (xs : List (DataW H × List MemPlace)), (∀ (i : Nat) (f : Field), fs[i]? = some f -> ∃ x, DataW.trod enc P W 0 (fun _ => true) true fuel f.type ((cs.drop f.offset).take (P.cellsOf f.type)) = some x) -> ∃ y : α, ok y /\ ∀ j, j < sz -> ∃ v, cs[off + j]? = some v /\ one v /\ R W.heap (DW W) zav (av y j) v
theorem sgl {h : Array Obj} {D : Nat -> Prop} {f : Nat -> AV} {v : Value} (h1 : one v) (h2 : R h D zav (f 0) v) : ∀ j, j < 1 -> ∃ u, [v][j]? = some u /\ one u /\ R h D zav (f j) u := by
 intro j hj
 obtain rfl : j = 0 := by omega
 exact ⟨v, rfl, h1, h2⟩
theorem ztu {α : Type} (p : Nat -> α -> Prop) : ∀ n, (∀ i, i < n -> ∃ y, p i y) -> ∃ l : List α, l.length = n /\ ∀ i, i < n -> ∃ y, l[i]? = some y /\ p i y
 | 0, _ => ⟨[], rfl, fun i hi => by omega⟩
 | m + 1, h => by
   obtain ⟨l, e1, e2⟩ := ztu p m (fun i hi => h i (by omega))
   obtain ⟨y, hy⟩ := h m (by omega)
   refine ⟨l ++ [y], by simp [e1], fun i hi => ?_⟩
   by_cases hi' : i < m
   · obtain ⟨z, z1, z2⟩ := e2 i hi'
     exact ⟨z, by rw [List.getElem?_append_left (by omega)]; exact z1, z2⟩
   · have : i = m := by omega
     subst this
     exact ⟨y, by rw [<- e1]; simp, hy⟩
section
variable {H : Type} {enc : TypeId × Value -> H} {P : Program} {W : World}
theorem zln {t : TypeId} {k : IntKind} (ht : P.underlying t = some (.int k)) (hc : P.cellsOf t = 1) : zex enc P W t Int 1 (fun n _ => .int k n) (fun n => (Lit.int k n).wf = true) := by
 refine ⟨hc, fun fuel cs x h => ?_⟩
 obtain ⟨n, rfl, rfl, hw⟩ := DataW.trod_int ht h
 exact ⟨n, hw, rfl, sgl rfl (.int k n)⟩
theorem opens_str {t : TypeId} (ht : P.underlying t = some .string) (hc : P.cellsOf t = 1) : zex enc P W t (List UInt8) 1 (fun l _ => .str l) (fun l => l.length <= maxLen) := by
 refine ⟨hc, fun fuel cs x h => ?_⟩
 obtain ⟨s, rfl, rfl, hs⟩ := DataW.trod_string ht h
 exact ⟨s.data.toList, by rw [Array.length_toList]; exact hs, rfl, sgl rfl (.str _ _ rfl)⟩
def avL {α : Type} (av : α -> Nat -> AV) (l : List α) (i j : Nat) : AV := match l[i]? with | some y => av y j | none => .dead
theorem zti {t e : TypeId} {α : Type} {sz : Nat} {av : α -> Nat -> AV} {ok : α -> Prop} (ht : P.underlying t = some (.slice e)) (hc : P.cellsOf t = 1) (he : zex enc P W e α sz av ok) (hs : 0 < sz) :
   zex enc P W t (List α) 1 (fun l _ => .lst sz l.length (avL av l)) (fun l => l.length <= maxLen /\ ∀ y ∈ l, ok y) := by
 refine ⟨hc, fun fuel cs x h => ?_⟩
 rcases DataW.trod_slice ht h with ⟨rfl, rfl⟩ | ⟨a, len, cap, elems, rest, n, _, rfl, rfl, hb, hl, hm, hlen, hel, _, _⟩
 · exact ⟨[], ⟨Nat.zero_le _, fun y hy => by cases hy⟩, rfl, sgl rfl (.lst0 _ _ _ _ (fun _ => rfl))⟩
 · have each : ∀ i, i < len -> ∃ y : α, ok y /\ ∀ j, j < sz -> ∃ v, W.cell? ((a.add (i * sz)).add j) = some v /\ one v /\ R W.heap (DW W) zav (av y j) v := by
     intro i hi
     have h1 := hel i hi
     rw [he.size] at h1
     obtain ⟨z, hz⟩ : ∃ z, elems[i]? = some z := ⟨elems[i], by simp [hlen, hi]⟩
     rw [hz, Option.bind_eq_some_iff] at h1
     obtain ⟨cs', h2, h3⟩ := h1
     obtain ⟨y, y1, y2, y3⟩ := he.go _ _ _ h3
     refine ⟨y, y1, fun j hj => ?_⟩
     obtain ⟨v, v1, v2, v3⟩ := y3 j hj
     exact ⟨v, by rw [(World.cells?_some h2).2.2 j hj]; exact v1, v2, v3⟩
   obtain ⟨l, hl1, hl2⟩ : ∃ l : List α, l.length = len /\ ∀ i, i < len -> ∃ y, l[i]? = some y /\ ok y /\ ∀ j, j < sz -> ∃ v, W.cell? ((a.add (i * sz)).add j) = some v /\ one v /\ R W.heap (DW W) zav (av y j) v :=
     ztu (fun i y => ok y /\ ∀ j, j < sz -> ∃ v, W.cell? ((a.add (i * sz)).add j) = some v /\ one v /\ R W.heap (DW W) zav (av y j) v) len each
   refine ⟨l, ⟨by omega, fun y hy => ?_⟩, rfl, sgl rfl ?_⟩
   · obtain ⟨i, hi, rfl⟩ := List.getElem_of_mem hy
     obtain ⟨z, z1, z2, _⟩ := hl2 i (by omega)
     rw [List.getElem?_eq_getElem hi] at z1
     cases z1; exact z2
   · show R W.heap (DW W) zav (.lst sz l.length (avL av l)) _
     by_cases h0 : len = 0
     · subst h0; rw [hl1]; exact .lst0 _ _ _ _ (fun h => by cases h)
     · have cell : ∀ i j, i < len -> j < sz -> ∃ v, hcell W.heap a.block (a.off + i * sz + j) = some v /\ one v /\ R W.heap (DW W) zav (avL av l i j) v := by
         intro i j hi hj
         obtain ⟨y, y1, _, y3⟩ := hl2 i hi
         obtain ⟨v, v1, v2, v3⟩ := y3 j hj
         refine ⟨v, ?_, v2, by rw [avL, y1]; exact v3⟩
         rw [<- zmj]
         have hsp : ∀ p : Addr, W.cell? p = some v -> p.spot = none := by
           intro p hp
           unfold World.cell? at hp
           split at hp
           · split at hp
             · cases hp
             · rename_i hn; simpa using hn
           · cases hp
         have h1 := hsp _ v1
         have e : (a.add (i * sz)).add j = ⟨a.block, a.off + i * sz + j, none⟩ := by
           have hb1 : ((a.add (i * sz)).add j).block = a.block := by simp only [Addr.add]; split <;> split <;> rfl
           have hb2 : ((a.add (i * sz)).add j).off = a.off + i * sz + j := by simp only [Addr.add]; split <;> split <;> simp_all
           cases hq : (a.add (i * sz)).add j with
           | mk b o s => rw [hq] at h1 hb1 hb2; simp_all
         rw [<- e]; exact v1
       have hsp0 : a.spot = none := by
         obtain ⟨y, _, _, y3⟩ := hl2 0 (by omega)
         obtain ⟨v, v1, _⟩ := y3 0 hs
         rw [Nat.zero_mul] at v1
         simp only [Addr.add, if_true] at v1
         unfold World.cell? at v1
         split at v1
         · split at v1
           · cases v1
           · rename_i hn; simpa using hn
         · cases v1
       have hD : DW W a.block := by
         obtain ⟨v, v1, _⟩ := cell 0 0 (by omega) hs
         refine Classical.byContradiction fun hn => ?_
         unfold hcell at v1
         rw [Array.getElem?_eq_none (by unfold DW at hn; omega)] at v1
         cases v1
       have ea : a = ⟨a.block, a.off, none⟩ := by cases a; simp_all
       rw [ea, <- hl1]
       refine .lst sz l.length (avL av l) a.block a.off cap (fun i j => (hcell W.heap a.block (a.off + i * sz + j)).getD undef) hD (by omega) (fun i j hi hj => ?_) (fun i j hi hj => ?_) (fun i j hi hj => ?_)
       all_goals
         obtain ⟨v, v1, v2, v3⟩ := cell i j (by omega) hj
         rw [v1]
         first | rfl | exact v2 | exact v3
theorem ydd {t e : TypeId} {α : Type} {sz n : Nat} {av : α -> Nat -> AV} {ok : α -> Prop} (ht : P.underlying t = some (.array n e)) (hc : P.cellsOf t = n * sz) (he : zex enc P W e α sz av ok) (hs : 0 < sz) :
   zex enc P W t (List α) (n * sz) (fun l j => avL av l (j / sz) (j % sz)) (fun l => l.length = n /\ ∀ y ∈ l, ok y) := by
 refine ⟨hc, fun fuel cs x h => ?_⟩
 obtain ⟨xs, m, _, rfl, hl, hx, hel⟩ := DataW.trod_array ht h
 obtain ⟨l, hl1, hl2⟩ : ∃ l : List α, l.length = n /\ ∀ i, i < n -> ∃ y, l[i]? = some y /\ ok y /\ ∀ j, j < sz -> ∃ v, cs[i * sz + j]? = some v /\ one v /\ R W.heap (DW W) zav (av y j) v :=
   ztu (fun i y => ok y /\ ∀ j, j < sz -> ∃ v, cs[i * sz + j]? = some v /\ one v /\ R W.heap (DW W) zav (av y j) v) n (fun i hi => by
     have h1 := hel i hi
     rw [he.size, List.getElem?_eq_getElem (by omega)] at h1
     obtain ⟨y, y1, y2, y3⟩ := he.go _ _ _ h1
     refine ⟨y, y1, fun j hj => ?_⟩
     obtain ⟨v, v1, v2⟩ := y3 j hj
     rw [List.getElem?_take, if_pos hj, List.getElem?_drop] at v1
     exact ⟨v, v1, v2⟩)
 refine ⟨l, ⟨hl1, fun y hy => ?_⟩, by rw [hl, hc], fun j hj => ?_⟩
 · obtain ⟨i, hi, rfl⟩ := List.getElem_of_mem hy
   obtain ⟨z, z1, z2, _⟩ := hl2 i (by omega)
   rw [List.getElem?_eq_getElem hi] at z1
   cases z1; exact z2
 · have hi : j / sz < n := Nat.div_lt_of_lt_mul (by rw [Nat.mul_comm]; exact hj)
   obtain ⟨z, z1, _, z3⟩ := hl2 (j / sz) hi
   obtain ⟨v, v1, v2⟩ := z3 (j % sz) (Nat.mod_lt _ hs)
   rw [show j / sz * sz + j % sz = j by rw [Nat.mul_comm]; exact Nat.div_add_mod j sz] at v1
   exact ⟨v, v1, by unfold avL; rw [z1]; exact v2⟩
theorem zjm (off : Nat) : zxn enc P W [] off Unit 0 (fun _ _ => .dead) (fun _ => True) := ⟨fun _ _ _ _ => ⟨(), trivial, fun j hj => by omega⟩⟩
theorem zbq {f : Field} {fs : List Field} {off : Nat} {α β : Type} {sz sz' : Nat} {av : α -> Nat -> AV} {av' : β -> Nat -> AV} {ok : α -> Prop} {ok' : β -> Prop} (ho : f.offset = off) (hf : zex enc P W f.type α sz av ok) (hr : zxn enc P W fs (off + sz) β sz' av' ok') :
   zxn enc P W (f :: fs) off (α × β) (sz + sz') (fun y j => if j < sz then av y.1 j else av' y.2 (j - sz)) (fun y => ok y.1 /\ ok' y.2) := by
 refine ⟨fun fuel cs xs h => ?_⟩
 obtain ⟨x, hx⟩ := h 0 f rfl
 obtain ⟨y, y1, y2, y3⟩ := hf.go _ _ _ hx
 obtain ⟨z, z1, z2⟩ := hr.go fuel cs xs (fun i g hg => h (i + 1) g hg)
 refine ⟨(y, z), ⟨y1, z1⟩, fun j hj => ?_⟩
 by_cases hlt : j < sz
 · obtain ⟨v, v1, v2, v3⟩ := y3 j hlt
   refine ⟨v, ?_, v2, by simp only [if_pos hlt]; exact v3⟩
   rw [hf.size, List.getElem?_take, if_pos hlt, List.getElem?_drop, ho] at v1
   exact v1
 · obtain ⟨v, v1, v2, v3⟩ := z2 (j - sz) (by omega)
   refine ⟨v, ?_, v2, by simp only [if_neg hlt]; exact v3⟩
   rw [<- v1]; congr 1; omega
theorem zgf {t : TypeId} {fs : Array Field} {α : Type} {sz : Nat} {av : α -> Nat -> AV} {ok : α -> Prop} (ht : P.underlying t = some (.struct fs)) (hc : P.cellsOf t = sz) (hf : zxn enc P W fs.toList 0 α sz av ok) : zex enc P W t α sz av ok := by
 refine ⟨hc, fun fuel cs x h => ?_⟩
 obtain ⟨xs, n, rfl, rfl, hl, hx, hfs⟩ := DataW.trod_struct ht h
 obtain ⟨y, y1, y2⟩ := hf.go n cs xs (fun i f hi => by
   have := hfs i f (by simpa using hi)
   have hlt : i < xs.length := by rw [hx]; simpa using (List.getElem?_eq_some_iff.1 hi).1
   exact ⟨xs[i], by rw [this]; simp [hlt]⟩)
 exact ⟨y, y1, by omega, fun j hj => by obtain ⟨v, v1, v2⟩ := y2 j hj; exact ⟨v, by simpa using v1, v2⟩⟩
theorem zex.map {t : TypeId} {α β : Type} {sz : Nat} {av : α -> Nat -> AV} {av' : β -> Nat -> AV} {ok : α -> Prop} {ok' : β -> Prop} (O : zex enc P W t α sz av ok) (f : α -> β) (h1 : ∀ y j, j < sz -> av y j = av' (f y) j) (h2 : ∀ y, ok y -> ok' (f y)) : zex enc P W t β sz av' ok' := by
 refine ⟨O.size, fun fuel cs x h => ?_⟩
 obtain ⟨y, y1, y2, y3⟩ := O.go fuel cs x h
 refine ⟨f y, h2 y y1, y2, fun j hj => ?_⟩
 obtain ⟨v, v1, v2, v3⟩ := y3 j hj
 exact ⟨v, v1, v2, by rw [<- h1 y j hj]; exact v3⟩
theorem open_one {t : TypeId} {α : Type} {av : α -> Nat -> AV} {ok : α -> Prop} {v : Value} {d : DataW H} {p : List MemPlace} (O : zex enc P W t α 1 av ok) (hv : v.cells = #[v]) (h : DataW.Trod enc P W 0 (fun _ => true) true t v d p) :
   ∃ y, ok y /\ R W.heap (DW W) zav (av y 0) v := by
 obtain ⟨fuel, h⟩ := h
 obtain ⟨y, y1, y2, y3⟩ := O.go _ _ _ h
 obtain ⟨u, u1, u2, u3⟩ := y3 0 (by omega)
 rw [hv] at u1
 simp at u1
 subst u1
 exact ⟨y, y1, u3⟩
theorem open_agg {t : TypeId} {α : Type} {sz : Nat} {av : α -> Nat -> AV} {ok : α -> Prop} {cs : Array Value} {d : DataW H} {p : List MemPlace} (O : zex enc P W t α sz av ok) (h : DataW.Trod enc P W 0 (fun _ => true) true t (.agg cs) d p) :
   ∃ y, ok y /\ R W.heap (DW W) zav (.agg ((List.range sz).map (av y))) (.agg cs) := by
 obtain ⟨fuel, h⟩ := h
 obtain ⟨y, y1, y2, y3⟩ := O.go _ _ _ h
 refine ⟨y, y1, .agg _ _ (by simpa [Value.cells] using y2.symm) (fun i v hv => ?_) (fun i x v hx hv => ?_)⟩
 · have hi : i < sz := by
     have := (Array.getElem?_eq_some_iff.1 hv).1
     simp [Value.cells] at y2; omega
   obtain ⟨u, u1, u2, u3⟩ := y3 i hi
   simp [Value.cells] at u1
   rw [u1] at hv; cases hv; exact u2
 · have hi : i < sz := by
     have := (List.getElem?_eq_some_iff.1 hx).1
     simpa using this
   obtain ⟨u, u1, u2, u3⟩ := y3 i hi
   simp [Value.cells] at u1
   rw [u1] at hv; cases hv
   simp [hi] at hx
   subst hx; exact u3
end
theorem ygv {P : Program} {f : FuncId} {xs ys : List AV} {r : AV} (h : ∀ h D vs, RL h D zav xs vs -> RL h D zav ys vs) (ha : zad P f ys r) : zad P f xs r := fun D w vs hD hx => ha D w vs hD (h _ _ _ hx)
end Sy
end Go.Proofs.YtogpolfhcbgcbaaGreatDoor
namespace Go.Proofs.YtogpolfhcbgcbaaGreatDoor
namespace Sy
open Go Go.RowKit
set_option maxRecDepth 100000
set_option linter.unusedSimpArgs false
set_option linter.unusedVariables false
structure Vw (α : Type) where
 sz : Nat
 cell : zab -> α -> Nat -> AV
 rd : (Nat -> AV) -> α
 ok : (Nat -> AV) -> Prop
 d : α
structure zso {α : Type} (V : Vw α) : Prop where
 turn : ∀ c, V.ok c -> ∀ j, j < V.sz -> ∀ (h : Array Obj) (D : Nat -> Prop) (μ : Mu) (v : Value), R h D μ (c j) v -> R h D μ (V.cell std (V.rd c) j) v
 back : ∀ c x, (∀ j, j < V.sz -> c j = V.cell std x j) -> V.ok c /\ V.rd c = x
def zi0 {α : Type} (V : Vw α) (l : List α) (i : Nat) : α := l.getD i V.d
def zbl {α : Type} (l : List α) : Nat := l.length
def yuf {α : Type} (L : zab) (V : Vw α) (l : List α) : Nat -> Nat -> AV := fun i j => V.cell L (L (L (zi0 V) l) i) j
def zz7 {α : Type} (L : zab) (V : Vw α) (l : List α) : AV := .lst V.sz (L zbl l) (yuf L V l)
def rdW {α : Type} (V : Vw α) : AV -> List α
 | .lst _ n get => (List.range n).map fun i => V.rd (get i)
 | _ => []
def okW {α : Type} (V : Vw α) : AV -> Prop
 | .lst sz n get => sz = V.sz /\ ∀ i, i < n -> V.ok (get i)
 | .nils => True
 | _ => False
theorem zas {α : Type} {V : Vw α} {l : List α} {i : Nat} (h : i < l.length) : zi0 V l i = l[i] := by
 rw [zi0, List.getD_eq_getElem?_getD, List.getElem?_eq_getElem h]; rfl
theorem zli {α : Type} (V : Vw α) (sz n : Nat) (get : Nat -> Nat -> AV) : (rdW V (.lst sz n get)).length = n := by simp [rdW]
theorem ycv {α : Type} {V : Vw α} {sz n : Nat} {get : Nat -> Nat -> AV} {i : Nat} (h : i < n) : zi0 V (rdW V (.lst sz n get)) i = V.rd (get i) := by
 rw [zas (by rw [zli]; exact h)]
 simp [rdW]
theorem zyw {α : Type} {V : Vw α} (K : zso V) {h : Array Obj} {D : Nat -> Prop} {μ : Mu} {x : AV} {v : Value} (ho : okW V x) (r : R h D μ x v) : R h D μ (zz7 std V (rdW V x)) v := by
 match x, ho with
 | .nils, _ => cases r; exact .lst0 _ _ none 0 (fun _ => rfl)
 | .lst sz n get, ho =>
   obtain ⟨rfl, ho⟩ := ho
   have e : zz7 std V (rdW V (.lst V.sz n get)) = .lst V.sz n (yuf std V (rdW V (.lst V.sz n get))) := by
     show AV.lst V.sz (zbl (rdW V (.lst V.sz n get))) _ = _
     rw [show zbl (rdW V (.lst V.sz n get)) = n from zli _ _ _ _]
   rw [e]
   cases r with
   | lst0 _ _ a cap hn => exact .lst0 _ _ a cap hn
   | lst _ _ _ b o cap vs hD hc hv h1 hr =>
     refine .lst _ _ _ b o cap vs hD hc hv h1 (fun i j hi hj => ?_)
     show R h D zav (V.cell std (zi0 V (rdW V (.lst V.sz n get)) i) j) (vs i j)
     rw [ycv hi]
     exact K.turn _ (ho i hi) j hj _ _ _ _ (hr i j hi hj)
theorem zox {α : Type} {V : Vw α} (K : zso V) {n : Nat} {get : Nat -> Nat -> AV} {l : List α} (hn : n = l.length) (h : ∀ i j, i < n -> j < V.sz -> get i j = V.cell std (zi0 V l i) j) : okW V (.lst V.sz n get) /\ rdW V (.lst V.sz n get) = l := by
 subst hn
 refine ⟨⟨rfl, fun i hi => (K.back _ _ (fun j hj => h i j hi hj)).1⟩, ?_⟩
 apply List.ext_getElem
 · rw [zli]
 · intro i h1 h2
   have := ycv (V := V) (sz := V.sz) (get := get) h2
   rw [zas h1] at this
   rw [this, (K.back _ _ (fun j hj => h i j h2 hj)).2, zas h2]
theorem zcd {α : Type} {V : Vw α} (K : zso V) (l : List α) : okW V (zz7 std V l) /\ rdW V (zz7 std V l) = l := zox K rfl (fun i j hi hj => rfl)
theorem zhf {α : Type} {V : Vw α} (K : zso V) {P : Program} {f : FuncId} {x r : AV} {xs : List AV} (ho : okW V x) (h : zad P f (zz7 std V (rdW V x) :: xs) r) : zad P f (x :: xs) r :=
 ygv (fun hp D vs hr => by
   refine ⟨by rw [<- hr.1]; rfl, fun i z v hz hv => ?_⟩
   cases i with
   | zero => cases hz; exact zyw K ho (hr.2 0 x v rfl hv)
   | succ i => exact hr.2 (i + 1) z v hz hv) h
theorem yvp {α : Type} {V : Vw α} (K : zso V) {P : Program} {f : FuncId} {y x r : AV} {xs : List AV} (ho : okW V x) (h : zad P f (y :: zz7 std V (rdW V x) :: xs) r) : zad P f (y :: x :: xs) r :=
 ygv (fun hp D vs hr => by
   refine ⟨by rw [<- hr.1]; rfl, fun i z v hz hv => ?_⟩
   match i, hz with
   | 0, hz => exact hr.2 0 z v hz hv
   | 1, hz => cases hz; exact zyw K ho (hr.2 1 x v rfl hv)
   | i + 2, hz => exact hr.2 (i + 2) z v hz hv) h
def zvi (x : AV) : List UInt8 := match x with | .str s => s | _ => []
def isS (x : AV) : Prop := ∃ s, x = .str s
def isI (k : IntKind) (x : AV) : Prop := ∃ n, x = .int k n
theorem yec {x : AV} (h : isS x) {hp : Array Obj} {D : Nat -> Prop} {μ : Mu} {v : Value} (r : R hp D μ x v) : R hp D μ (.str (zvi x)) v := by obtain ⟨s, rfl⟩ := h; exact r
theorem zri {k : IntKind} {x : AV} (h : isI k x) {hp : Array Obj} {D : Nat -> Prop} {μ : Mu} {v : Value} (r : R hp D μ x v) : R hp D μ (.int k x.toI) v := by obtain ⟨s, rfl⟩ := h; exact r
def zh5 {α : Type} (p : α -> Bool) : List α -> Int
 | [] => -1
 | x :: l => if p x = true then 0 else if zh5 p l < 0 then -1 else zh5 p l + 1
theorem zu0 {α : Type} (p : α -> Bool) : ∀ l : List α, -1 <= zh5 p l /\ zh5 p l < l.length
 | [] => by simp [zh5]
 | x :: l => by
   have ih := zu0 p l
   rw [List.length_cons]
   unfold zh5
   split
   · omega
   · split <;> omega
theorem zh4 {α : Type} (p : α -> Bool) : ∀ l : List α, decide (0 <= zh5 p l) = l.any p
 | [] => by simp [zh5]
 | x :: l => by
   have ih := zh4 p l
   unfold zh5
   by_cases h : p x = true
   · simp [h]
   · have h' : p x = false := by simpa using h
     rw [if_neg h, List.any_cons, h', Bool.false_or, <- ih]
     split
     · rename_i h2; rw [decide_eq_false (by omega), decide_eq_false (by omega)]
     · rename_i h2; rw [decide_eq_true (by omega), decide_eq_true (by omega)]
theorem yer {α : Type} {p : α -> Bool} : ∀ {l : List α} {i : Nat} (hi : i < l.length), (∀ k (hk : k < i), p (l[k]'(by omega)) = false) -> p l[i] = true -> zh5 p l = i
 | [], i, hi, _, _ => by simp at hi
 | x :: l, 0, hi, _, h => by simp at h; simp [zh5, h]
 | x :: l, i + 1, hi, h0, h => by
   have hx : p x = false := by simpa using h0 0 (by omega)
   have ih := yer (p := p) (l := l) (i := i) (by simpa using hi) (fun k hk => by have := h0 (k + 1) (by omega); simpa using this) (by simpa using h)
   rw [zh5, if_neg (by rw [hx]; decide), if_neg (by omega), ih]; simp
theorem yeq {α : Type} {p : α -> Bool} : ∀ {l : List α}, (∀ x ∈ l, p x = false) -> zh5 p l = -1
 | [], _ => rfl
 | x :: l, h => by
   have hx := h x (by simp)
   have ih := yeq (p := p) (l := l) (fun y hy => h y (by simp [hy]))
   rw [zh5, if_neg (by rw [hx]; decide), if_pos (by omega)]
def zmv {α : Type} (p : α -> Bool) (l : List α) (i : Nat) : Prop := i <= l.length /\ ∀ x ∈ l.take i, p x = false
theorem zlr {α : Type} (p : α -> Bool) (l : List α) : zmv p l 0 := ⟨Nat.zero_le _, fun x hx => by simp at hx⟩
theorem zf6 {α : Type} {V : Vw α} {p : α -> Bool} {l : List α} {i : Nat} (h : zmv p l i) (hi : i < l.length) (hp : p (zi0 V l i) = false) : zmv p l (i + 1) := by
 refine ⟨hi, fun x hx => ?_⟩
 rw [List.take_succ_eq_append_getElem hi, List.mem_append] at hx
 rcases hx with hx | hx
 · exact h.2 x hx
 · rw [List.mem_singleton.1 hx, <- zas (V := V) hi]; exact hp
theorem zgg {α : Type} {V : Vw α} {p : α -> Bool} {l : List α} {i : Nat} (h : zmv p l i) (hi : i < l.length) (hp : p (zi0 V l i) = true) : zh5 p l = i := by
 rw [zas hi] at hp
 refine yer hi (fun k hk => h.2 _ ?_) hp
 rw [List.mem_take_iff_getElem]
 exact ⟨k, by omega, rfl⟩
theorem zgh {α : Type} {p : α -> Bool} {l : List α} {i : Nat} (h : zmv p l i) (hi : ¬ i < l.length) : zh5 p l = -1 := by
 have := h.2
 rw [List.take_of_length_le (by omega)] at this
 exact yeq this
def zls : zog := (151, fun raw ob => match raw with
 | [.ref id 0] => match ob id with
   | some (.box ty cs) => some ⟨[.ref 500000 0], [(500000, .box ty cs)], True, .ref 500000 0, [(500000, .box ty cs)]⟩
   | _ => none
 | _ => none)
theorem zno : zg9 Tryz.prog zls := by
 intro raw ob T hT hp
 unfold zls at hT
 simp only at hT
 split at hT
 · split at hT
   · cases hT
     intro D w μ vs hD hxs hdom hobs hinj hown hg hgb
     obtain ⟨v, hv⟩ : ∃ v, vs.toList = [v] := List.length_eq_one_iff.1 (by simpa using hxs.1.symm)
     have : vs = #[v] := by rw [<- Array.toArray_toList (xs := vs), hv]
     subst this
     unfold zek
     rw [show zls.fst = 151 from rfl, run_callFunc_extern (fn := Tryz.f151) rfl (by kernel_rfl) (by kernel_rfl) (by kernel_rfl) (e := Extern.AbiNoEscape.same) (by kernel_rfl)]
     rw [Lib.run_noEscape]
     exact ⟨v, D, μ, { ret := rfl, os := rfl, tape := rfl, output := rfl, size := Nat.le_refl _, old := fun _ _ _ => rfl, up := fun _ h => h, dn := fun _ h => .inl h, dom := hdom, obs := hobs, inj := hinj, own := fun n b z h => ⟨(hown n b z h).1, (hown n b z h).2, .inr ⟨n, z, h⟩⟩, keep := fun _ _ _ => rfl, val := hxs.2 0 _ _ rfl rfl }⟩
   · cases hT
 · cases hT
def yqs : zog := (146, fun raw ob => match raw with
 | [.ref id 0] => match ob id with
   | some (.box _ [.nilp, .nils]) => some ⟨[.ref 500000 0], [(500000, .box 137 [.nilp, .nils])], True, .tup [], [(500000, .box 137 [.ref 500000 0, .nils])]⟩
   | some (.box _ [.ref _ 0, .sl k 1 0 n]) => match ob k with
     | some (.row _ 1 m get) => some ⟨[.ref 500000 0], [(500000, .box 137 [.ref 500000 0, .sl 500001 1 0 m]), (500001, .row 5 1 m get)], True, .tup [], [(500000, .box 137 [.ref 500000 0, .sl 500001 1 0 m]), (500001, .row 5 1 m get)]⟩
     | _ => none
   | _ => none
 | _ => none)
theorem yvb : zbj Tryz.prog 146 [.ref 500000 0] [(500000, .box 137 [.nilp, .nils])] (.tup []) [(500000, .box 137 [.ref 500000 0, .nils])] := by
 refine zbc (T := tt) (S := fun L => zca [] [zls]) (lo := noA) (lb := noA) 5 (fn := Tryz.f146) (xs := fun L => [.ref 500000 0]) (rts := fun _ => []) (O := fun L => [(500000, .box 137 [.nilp, .nils])]) (O1 := fun L => [(500000, .box 137 [.ref 500000 0, .nils])])
   rfl rfl (by kernel_rfl) (by kernel_rfl) (by kernel_rfl) zac (zaw trivial ⟨zno, trivial⟩) (by kernel_rfl) ?_
 intro L P' Q' hL hP hQ
 (cbv; try simp only [syT, true_and, and_true])
 exact ⟨fun _ => trivial, fun h => by cases h⟩
theorem yva (m : Nat) (get : Nat -> Nat -> AV) : zbj Tryz.prog 146 [.ref 500000 0] [(500000, .box 137 [.ref 500000 0, .sl 500001 1 0 m]), (500001, .row 5 1 m get)] (.tup []) [(500000, .box 137 [.ref 500000 0, .sl 500001 1 0 m]), (500001, .row 5 1 m get)] := by
 refine zbc (T := tt) (S := fun L => zca [] [zls]) (lo := noA) (lb := noA) 5 (fn := Tryz.f146) (xs := fun L => [.ref 500000 0]) (rts := fun _ => []) (O := fun L => [(500000, .box 137 [.ref 500000 0, .sl 500001 1 0 m]), (500001, .row 5 1 m get)]) (O1 := fun L => [(500000, .box 137 [.ref 500000 0, .sl 500001 1 0 m]), (500001, .row 5 1 m get)])
   rfl rfl (by kernel_rfl) (by kernel_rfl) (by kernel_rfl) zac (zaw trivial ⟨zno, trivial⟩) (by kernel_rfl) ?_
 intro L P' Q' hL hP hQ
 (cbv; try simp only [syT, true_and, and_true])
 subst hL
 simp [std]
theorem zmk : zg9 Tryz.prog yqs := by
 intro raw ob T hT hp
 unfold yqs at hT
 simp only at hT
 repeat' split at hT
 all_goals first | (cases hT; done) | (cases hT; exact yvb) | (cases hT; exact yva _ _)
def bld (L : zab) (l : List UInt8) : List (Nat × Ob) := [(500000, .box 137 [.ref 500000 0, .sl 500001 1 0 (L lenN l)]), (500001, .row 5 1 (L lenN l) (fun i _ => .int .u8 (L2 L zae l i)))]
def zuv (L : zab) (l : List UInt8) : List (Nat × Ob) := [(500000, .box 137 [.ref 500000 0, .sl 7 1 0 (L lenN l)]), (7, .row 5 1 (L lenN l) (fun i _ => .int .u8 (L2 L zae l i)))]
def ys5 : List (Nat × Ob) := [(500000, .box 137 [.nilp, .nils])]
def ygl (L : zab) (ob : Nat -> Option Ob) (id : Nat) : Option (Option (List UInt8)) := match ob id with
 | some (.box _ [.nilp, .nils]) => some none
 | some (.box _ [.ref _ 0, .sl k 1 0 n]) => match ob k with
   | some (.row _ 1 m get) => some (some (L2 L zbf m (fun i => (get i 0).toI)))
   | _ => none
 | _ => none
def zai (l m : List UInt8) : List UInt8 := l ++ m
def zce (c : Int) : List UInt8 := [UInt8.ofNat c.toNat]
def ysg (c : Int) : Prop := 0 <= c /\ c < 256
def zfl (l m : List UInt8) : Prop := l.length + m.length <= 90000000
def yvt (L : zab) : zog := (135, fun raw ob => match raw with
 | [.ref id 0, .int .u8 c] => match ygl L ob id with
   | some none => some ⟨[.ref 500000 0, .int .u8 c], ys5, L ysg c, .dead, zuv L (L zce c)⟩
   | some (some l) => some ⟨[.ref 500000 0, .int .u8 c], bld L l, L ysg c /\ L2 L zfl l (L zce c), .dead, zuv L (L2 L zai l (L zce c))⟩
   | none => none
 | _ => none)
def yvs (L : zab) : zog := (136, fun raw ob => match raw with
 | [.ref id 0, .str s] => match ygl L ob id with
   | some (some l) => some ⟨[.ref 500000 0, .str s], bld L l, L2 L zfl l s, .tup [.int .i64 (L slen s), .dead], zuv L (L2 L zai l s)⟩
   | _ => none
 | _ => none)
def bs_m (L : zab) : zog := (114, fun raw ob => match raw with
 | [.ref id 0] => match ygl L ob id with
   | some (some l) => some ⟨[.ref 500000 0], bld L l, L (fun l => l ≠ [] /\ l.length <= 90000000) l, .str l, []⟩
   | _ => none
 | _ => none)
def bl_m (L : zab) : zog := (113, fun raw ob => match raw with
 | [.ref id 0] => match ygl L ob id with
   | some (some l) => some ⟨[.ref 500000 0], bld L l, True, .int .i64 (L slen l), bld L l⟩
   | _ => none
 | _ => none)
theorem zxf {l m : List UInt8} {i : Nat} (h : i < l.length) : zae (l ++ m) i = zae l i := by
 simp [zae, List.getElem?_append_left h]
theorem zxe {l m : List UInt8} {i : Nat} (h : ¬ i < l.length) : zae (l ++ m) i = zae m (i - l.length) := by
 simp [zae, List.getElem?_append_right (show l.length <= i by omega)]
theorem zh9 (l : List UInt8) : zbf l.length (fun i => zae l i) = l := by
 apply List.ext_getElem
 · simp [zbf]
 · intro i h1 h2
   simp [zbf, zae, h2]
theorem zxg {c : Int} (hc : ysg c) (i : Nat) (h : i < 1) : zkd [c] i = zae (zce c) i := by
 have : i = 0 := by omega
 subst this
 obtain ⟨h0, h1⟩ := hc
 simp [zkd, zae, zce, UInt8.toNat_ofNat']
 omega
theorem ysc (c : Int) (hc : ysg c) : zbj Tryz.prog 135 [.ref 500000 0, .int .u8 c] ys5 .dead (zuv std (zce c)) := by
 refine zbc (T := tt) (S := fun L => zca [] [yqs]) (lo := noA) (lb := noA) 5 (fn := Tryz.f135) (xs := fun L => [.ref 500000 0, .int .u8 c]) (rts := fun _ => [.dead]) (O := fun L => ys5) (O1 := fun L => zuv L (L zce c))
   rfl rfl (by kernel_rfl) (by kernel_rfl) (by kernel_rfl) zac (zaw trivial ⟨zmk, trivial⟩) (by kernel_rfl) ?_
 intro L P' Q' hL hP hQ
 (cbv; try simp only [syT, true_and, and_true])
 subst hL
 simp only [L2, L3, std, zdt]
 have h1 : lenN (zce c) = 1 := rfl
 rw [h1]
 exact ⟨by omega, ⟨rfl, fun i j hi hj => by rw [show Nat.add 0 i = i from Nat.zero_add i, zxg hc i hi]⟩, rfl⟩
theorem ysb (l : List UInt8) (c : Int) (hc : ysg c) (hl : zfl l (zce c)) : zbj Tryz.prog 135 [.ref 500000 0, .int .u8 c] (bld std l) .dead (zuv std (zai l (zce c))) := by
 refine zbc (T := tt) (S := fun L => zca [] [yqs]) (lo := noA) (lb := noA) 5 (fn := Tryz.f135) (xs := fun L => [.ref 500000 0, .int .u8 c]) (rts := fun _ => [.dead]) (O := fun L => bld L l) (O1 := fun L => zuv L (L2 L zai l (L zce c)))
   rfl rfl (by kernel_rfl) (by kernel_rfl) (by kernel_rfl) zac (zaw trivial ⟨zmk, trivial⟩) (by kernel_rfl) ?_
 intro L P' Q' hL hP hQ
 (cbv; try simp only [syT, true_and, and_true])
 subst hL
 simp only [L2, L3, std, zdt]
 have h1 : lenN (zai l (zce c)) = l.length + 1 := by simp [lenN, zai, zce]
 have h2 : (zce c).length = 1 := rfl
 have hl : l.length + (zce c).length <= 90000000 := hl
 have h3 : lenN l = l.length := rfl
 rw [h1, h3]
 refine ⟨fun _ _ _ _ => trivial, by omega, ⟨rfl, fun i j hi hj => ?_⟩, rfl⟩
 by_cases h : i < l.length
 · rw [zhw h, show zai l (zce c) = l ++ zce c from rfl, zxf h]; rfl
 · rw [zjy h, show zai l (zce c) = l ++ zce c from rfl, zxe h]
   show AV.int .u8 (zkd [c] (Nat.add 0 (i - l.length))) = _
   rw [show Nat.add 0 (i - l.length) = i - l.length from Nat.zero_add _, zxg hc _ (by omega)]
theorem ys7 (l s : List UInt8) (hl : zfl l s) : zbj Tryz.prog 136 [.ref 500000 0, .str s] (bld std l) (.tup [.int .i64 (slen s), .dead]) (zuv std (zai l s)) := by
 refine zbc (T := tt) (S := fun L => zca [] [yqs]) (lo := noA) (lb := noA) 5 (fn := Tryz.f136) (xs := fun L => [.ref 500000 0, .str s]) (rts := fun L => [.int .i64 (L slen s), .dead]) (O := fun L => bld L l) (O1 := fun L => zuv L (L2 L zai l s))
   rfl rfl (by kernel_rfl) (by kernel_rfl) (by kernel_rfl) zac (zaw trivial ⟨zmk, trivial⟩) (by kernel_rfl) ?_
 intro L P' Q' hL hP hQ
 (cbv; try simp only [syT, true_and, and_true])
 subst hL
 simp only [L2, L3, std, zdt]
 have h1 : lenN (zai l s) = l.length + s.length := by simp [lenN, zai]
 have hl : l.length + s.length <= 90000000 := hl
 have h3 : lenN l = l.length := rfl
 rw [h1, h3]
 refine ⟨fun _ _ _ _ => trivial, by omega, ⟨rfl, fun i j hi hj => ?_⟩, rfl⟩
 by_cases h : i < l.length
 · rw [zhw h, show zai l s = l ++ s from rfl, zxf h]; rfl
 · rw [zjy h, show zai l s = l ++ s from rfl, zxe h]; rfl
theorem yvf (l : List UInt8) (h0 : l ≠ []) (hl : l.length <= 90000000) : zbj Tryz.prog 114 [.ref 500000 0] (bld std l) (.str l) [] := by
 refine zbc (T := tt) (S := fun L => zca [] [yqs]) (lo := noA) (lb := noA) 5 (fn := Tryz.f114) (xs := fun L => [.ref 500000 0]) (rts := fun L => [.str l]) (O := fun L => bld L l) (O1 := fun L => [])
   rfl rfl (by kernel_rfl) (by kernel_rfl) (by kernel_rfl) zac (zaw trivial ⟨zmk, trivial⟩) (by kernel_rfl) ?_
 intro L P' Q' hL hP hQ
 (cbv; try simp only [syT, true_and, and_true])
 subst hL
 simp only [L2, L3, std]
 have h3 : lenN l = l.length := rfl
 have h1 : 0 < l.length := List.length_pos_iff.2 h0
 refine ⟨zhw h1, ⟨by show (0 : Int) < (l.length : Int); omega, by show (l.length : Int) <= (l.length : Int); omega, by show (l.length : Int) <= _; omega, fun i hi => ⟨_, rfl, ?_, ?_⟩⟩, zh9 l⟩
 · simp [zae]
 · have := UInt8.toNat_lt (l.getD i 0)
   show ((l.getD i 0).toNat : Int) < 256
   omega
theorem yvh (l : List UInt8) : zbj Tryz.prog 113 [.ref 500000 0] (bld std l) (.int .i64 (slen l)) (bld std l) := by
 refine zbc (T := tt) (S := fun L => zca [] [yqs]) (lo := noA) (lb := noA) 5 (fn := Tryz.f113) (xs := fun L => [.ref 500000 0]) (rts := fun L => [.int .i64 (L slen l)]) (O := fun L => bld L l) (O1 := fun L => bld L l)
   rfl rfl (by kernel_rfl) (by kernel_rfl) (by kernel_rfl) zac (zaw trivial ⟨zmk, trivial⟩) (by kernel_rfl) ?_
 intro L P' Q' hL hP hQ
 (cbv; try simp only [syT, true_and, and_true])
 subst hL
 exact ⟨fun _ _ _ _ => trivial, rfl⟩
theorem yax : zg9 Tryz.prog (yvt std) := by
 intro raw ob T hT hp
 unfold yvt at hT
 simp only at hT
 repeat' split at hT
 all_goals first | (cases hT; done) | (cases hT; exact ysc _ hp) | (cases hT; exact ysb _ _ hp.1 hp.2)
theorem yar : zg9 Tryz.prog (yvs std) := by
 intro raw ob T hT hp
 unfold yvs at hT
 simp only at hT
 repeat' split at hT
 all_goals first | (cases hT; done) | (cases hT; exact ys7 _ _ hp)
theorem yra : zg9 Tryz.prog (bs_m std) := by
 intro raw ob T hT hp
 unfold bs_m at hT
 simp only at hT
 repeat' split at hT
 all_goals first | (cases hT; done) | (cases hT; exact yvf _ hp.1 hp.2)
theorem yrc : zg9 Tryz.prog (bl_m std) := by
 intro raw ob T hT hp
 unfold bl_m at hT
 simp only at hT
 repeat' split at hT
 all_goals first | (cases hT; done) | (cases hT; exact yvh _)
inductive CV where
 | mk (k n : Int) (s : List UInt8) (l : List CV)
namespace CV
def kd : CV -> Int
 | mk k _ _ _ => k
def nn : CV -> Int
 | mk _ n _ _ => n
def tx : CV -> List UInt8
 | mk _ _ s _ => s
def ls : CV -> List CV
 | mk _ _ _ l => l
theorem eta (v : CV) : mk v.kd v.nn v.tx v.ls = v := by cases v; rfl
end CV
def zdv (l : List CV) (i : Nat) : CV := l.getD i (.mk 0 0 [] [])
def lenL (l : List CV) : Nat := l.length
def zmr (v : CV) : Nat := v.ls.length
def sizeC : CV -> Nat
 | .mk _ _ _ l => sizeCs l + 1
where sizeCs : List CV -> Nat
 | [] => 0
 | v :: l => sizeC v + sizeCs l
abbrev sizeCs := sizeC.sizeCs
theorem zcs : sizeCs [] = 0 := by simp [sizeC.sizeCs]
theorem zbp (v : CV) (l : List CV) : sizeCs (v :: l) = sizeC v + sizeCs l := by simp [sizeC.sizeCs]
theorem zcx (k n : Int) (s : List UInt8) (l : List CV) : sizeC (.mk k n s l) = sizeCs l + 1 := by rw [sizeC]
theorem zf1 (v : CV) : 0 < sizeC v := by cases v; rw [zcx]; omega
theorem zl9 : ∀ (l : List CV) (i : Nat), i < l.length -> sizeC (zdv l i) <= sizeCs l
 | [], i, h => by simp at h
 | v :: l, 0, h => by rw [zbp]; show sizeC v <= _; omega
 | v :: l, i + 1, h => by
   have := zl9 l i (by simpa using h)
   rw [zbp]
   show sizeC (zdv l i) <= _
   omega
theorem zw0 {l : List CV} {i : Nat} (h : i < l.length) : zdv l i ∈ l := by
 rw [zdv, List.getD_eq_getElem?_getD, List.getElem?_eq_getElem h]; exact List.getElem_mem h
theorem ymp {p : CV -> Prop} (h : ∀ k n s l, (∀ v ∈ l, p v) -> p (.mk k n s l)) : ∀ (m : Nat) (v : CV), sizeC v <= m -> p v
 | 0, v, hv => by have := zf1 v; omega
 | m + 1, .mk k n s l, hv => h k n s l fun w hw => by
   rw [zcx] at hv
   obtain ⟨i, hi, rfl⟩ := List.getElem_of_mem hw
   have := zl9 l i hi
   have e : zdv l i = l[i] := by rw [zdv, List.getD_eq_getElem?_getD, List.getElem?_eq_getElem hi]; rfl
   rw [e] at this
   exact ymp h m _ (by omega)
theorem yfo {p : CV -> Prop} (h : ∀ k n s l, (∀ v ∈ l, p v) -> p (.mk k n s l)) (v : CV) : p v := ymp h _ v (Nat.le_refl _)
def dflC : Nat -> AV
 | 0 => .int .i64 0
 | 1 => .int .u64 0
 | 2 => .str []
 | _ => .lst 4 0 (fun _ _ => .dead)
mutual
def zei : CV -> Nat -> AV
 | .mk k n s l, j => match j with
   | 0 => .int .i64 k
   | 1 => .int .u64 n
   | 2 => .str s
   | _ => .lst 4 l.length (zj0 l)
def zj0 : List CV -> Nat -> Nat -> AV
 | [], _, j => dflC j
 | v :: l, i, j => match i with
   | 0 => zei v j
   | i + 1 => zj0 l i j
end
theorem zfz (v : CV) : zei v 0 = .int .i64 v.kd := by cases v; rw [zei]; rfl
theorem zfy (v : CV) : zei v 1 = .int .u64 v.nn := by cases v; rw [zei]; rfl
theorem zfx (v : CV) : zei v 2 = .str v.tx := by cases v; rw [zei]; rfl
theorem zfw (v : CV) : zei v 3 = .lst 4 v.ls.length (zj0 v.ls) := by cases v; rw [zei] <;> first | rfl | (intro h; cases h)
theorem zbv : ∀ (l : List CV) (i j : Nat), i < l.length -> zj0 l i j = zei (zdv l i) j
 | [], i, j, h => by simp at h
 | v :: l, 0, j, h => by rw [zj0]; rfl
 | v :: l, i + 1, j, h => by rw [zj0]; exact zbv l i j (by simpa using h)
def zku (v : CV) : Nat -> Nat -> AV := zj0 v.ls
def cv1 (L : zab) (v : CV) : Nat -> AV
 | 0 => .int .i64 (L CV.kd v)
 | 1 => .int .u64 (L CV.nn v)
 | 2 => .str (L CV.tx v)
 | _ => .lst 4 (L zmr v) (L zku v)
theorem zul (v : CV) (j : Nat) (h : j < 4) : cv1 std v j = zei v j := by
 match j, h with
 | 0, _ => rw [zfz]; rfl
 | 1, _ => rw [zfy]; rfl
 | 2, _ => rw [zfx]; rfl
 | 3, _ => rw [zfw]; rfl
def cvL (L : zab) (l : List CV) : AV := .lst 4 (L lenL l) (fun i j => cv1 L (L2 L zdv l i) j)
def cvA (L : zab) (v : CV) : AV := .agg [.int .i64 (L CV.kd v), .int .u64 (L CV.nn v), .str (L CV.tx v), .lst 4 (L zmr v) (L zku v)]
def rdL : AV -> List CV
 | .lst _ n get => (List.range n).map fun i => .mk (get i 0).toI (get i 1).toI (match get i 2 with | .str s => s | _ => []) (rdL (get i 3))
 | _ => []
def okL : AV -> Prop
 | .lst sz n get => sz = 4 /\ ∀ i, i < n -> (∃ x, get i 0 = .int .i64 x) /\ (∃ x, get i 1 = .int .u64 x) /\ (∃ x, get i 2 = .str x) /\ okL (get i 3)
 | .nils => True
 | _ => False
theorem zlg (sz n : Nat) (get : Nat -> Nat -> AV) : (rdL (.lst sz n get)).length = n := by simp [rdL]
theorem zvg {sz n : Nat} {get : Nat -> Nat -> AV} {i : Nat} (h : i < n) : zdv (rdL (.lst sz n get)) i = .mk (get i 0).toI (get i 1).toI (match get i 2 with | .str s => s | _ => []) (rdL (get i 3)) := by
 rw [zdv, List.getD_eq_getElem?_getD, rdL]
 simp [h]
theorem ymq {a b : List CV} (h : a.length = b.length) (k : ∀ i, i < a.length -> zdv a i = zdv b i) : a = b := by
 apply List.ext_getElem h
 intro i h1 h2
 have := k i h1
 rw [zdv, zdv, List.getD_eq_getElem?_getD, List.getD_eq_getElem?_getD, List.getElem?_eq_getElem h1, List.getElem?_eq_getElem h2] at this
 exact this
theorem yo1 : ∀ v : CV, rdL (zei v 3) = v.ls /\ okL (zei v 3) := by
 refine yfo fun k n s l ih => ?_
 rw [zfw]
 show rdL (.lst 4 l.length (zj0 l)) = l /\ okL (.lst 4 l.length (zj0 l))
 refine ⟨ymq (zlg _ _ _) fun i hi => ?_, rfl, fun i hi => ?_⟩
 · rw [zlg] at hi
   rw [zvg hi, zbv _ _ _ hi, zbv _ _ _ hi, zbv _ _ _ hi, zbv _ _ _ hi, zfz, zfy, zfx, (ih _ (zw0 hi)).1]
   exact CV.eta _
 · rw [zbv _ _ _ hi, zbv _ _ _ hi, zbv _ _ _ hi, zbv _ _ _ hi, zfz, zfy, zfx]
   exact ⟨⟨_, rfl⟩, ⟨_, rfl⟩, ⟨_, rfl⟩, (ih _ (zw0 hi)).2⟩
theorem zlh (v : CV) : rdL (.lst 4 (zmr v) (zku v)) = v.ls /\ okL (.lst 4 (zmr v) (zku v)) := by
 have := yo1 v
 rw [zfw] at this
 exact this
theorem ycu (l : List CV) : rdL (cvL std l) = l /\ okL (cvL std l) := by
 refine ⟨ymq (zlg _ _ _) fun i hi => ?_, rfl, fun i hi => ⟨⟨_, rfl⟩, ⟨_, rfl⟩, ⟨_, rfl⟩, (zlh _).2⟩⟩
 have hi : i < l.length := by rw [show (rdL (cvL std l)).length = lenL l from zlg _ _ _] at hi; exact hi
 show zdv (rdL (.lst 4 (lenL l) _)) i = _
 rw [zvg (show i < lenL l from hi)]
 show CV.mk (zdv l i).kd (zdv l i).nn (zdv l i).tx (rdL (.lst 4 (zmr (zdv l i)) (zku (zdv l i)))) = _
 rw [(zlh _).1, CV.eta]
theorem yta {h : Array Obj} {D : Nat -> Prop} : ∀ (x : AV) {μ : Mu} {v : Value}, okL x -> R h D μ x v -> R h D μ (.lst 4 (rdL x).length (zj0 (rdL x))) v := by
 intro x μ v ho r
 induction r with
 | nils => exact .lst0 _ _ _ _ (fun _ => rfl)
 | lst0 sz get a cap hn => exact .lst0 _ _ _ _ hn
 | lst sz n get b o cap vs hD hc hv h1 hr ih =>
   obtain ⟨rfl, ho⟩ := ho
   rw [zlg]
   refine .lst _ _ _ b o cap vs hD hc hv h1 (fun i j hi hj => ?_)
   rw [zbv _ _ _ (by rw [zlg]; exact hi), zvg hi]
   obtain ⟨⟨x0, e0⟩, ⟨x1, e1⟩, ⟨x2, e2⟩, o3⟩ := ho i hi
   have hj' := hr i j hi hj
   match j, hj with
   | 0, _ => rw [zfz]; rw [e0] at hj' |-; exact hj'
   | 1, _ => rw [zfy]; rw [e1] at hj' |-; exact hj'
   | 2, _ => rw [zfx]; rw [e2] at hj' |-; exact hj'
   | 3, _ => rw [zfw]; exact ih i 3 hi (by omega) o3
 | _ => exact ho.elim
theorem yv5 {h : Array Obj} {D : Nat -> Prop} {μ : Mu} {l : List CV} {v : Value} (r : R h D μ (.lst 4 l.length (zj0 l)) v) : R h D μ (cvL std l) v :=
 yjc r fun i j hi hj => by
   rw [zbv _ _ _ hi]
   exact (zul _ j hj).symm
mutual
def zdn : CV -> Int
 | .mk k _ _ l => if k = 3 then zb4 l + 1 else 0
def zb4 : List CV -> Int
 | [] => 0
 | v :: l => max (zdn v) (zb4 l)
end
theorem zo7 : ∀ a b : List CV, zb4 (a ++ b) = max (zb4 a) (zb4 b)
 | [], b => by
   rw [List.nil_append, zb4]
   have : ∀ b : List CV, 0 <= zb4 b := by
     intro b
     induction b with
     | nil => rw [zb4]; omega
     | cons v l ih => rw [zb4]; omega
   have := this b
   omega
 | v :: a, b => by rw [List.cons_append, zb4, zo7 a b, zb4]; omega
theorem zv6 {l : List CV} {i : Nat} (h : i < l.length) : l.take (i + 1) = l.take i ++ [zdv l i] := by
 rw [List.take_succ_eq_append_getElem h, zdv, List.getD_eq_getElem?_getD, List.getElem?_eq_getElem h]; rfl
def zhi (l : List CV) (i : Nat) : Int := zb4 (l.take i)
theorem zuj {l : List CV} {i : Nat} (h : i < l.length) : zhi l (i + 1) = max (zhi l i) (zdn (zdv l i)) := by
 unfold zhi
 rw [zv6 h, zo7, zb4, zb4]
 have : 0 <= zdn (zdv l i) \/ True := .inr trivial
 have h0 : ∀ b : List CV, 0 <= zb4 b := by
   intro b
   induction b with
   | nil => rw [zb4]; omega
   | cons v l ih => rw [zb4]; omega
 have := h0 (l.take i)
 omega
mutual
def zg0 : CV -> Bool
 | .mk k n s l => if k = 1 then decide (s = []) && l.isEmpty else if k = 2 then decide (n = 0) && l.isEmpty else if k = 3 then decide (n = 0) && decide (s = []) && zdq l else false
def zdq : List CV -> Bool
 | [] => true
 | v :: l => zg0 v && zdq l
end
def zgt (k : Int) : List UInt8 := [UInt8.ofNat (k % 256).toNat]
mutual
def zby : CV -> List UInt8
 | .mk k n s l => zgt k ++ if k = 1 then zb8 n else if k = 2 then zb8 s.length ++ s else zb8 l.length ++ zb2 l
def zb2 : List CV -> List UInt8
 | [] => []
 | v :: l => zby v ++ zb2 l
end
theorem zjc : ∀ a b : List CV, zb2 (a ++ b) = zb2 a ++ zb2 b
 | [], b => by rw [zb2]; rfl
 | v :: a, b => by rw [List.cons_append, zb2, zjc a b, zb2, List.append_assoc]
def zhg (l : List CV) (i : Nat) : List UInt8 := zb2 (l.take i)
theorem ze6 {l : List CV} {i : Nat} (h : i < l.length) : zhg l (i + 1) = zhg l i ++ zby (zdv l i) := by
 unfold zhg
 rw [zv6 h, zjc, zb2, zb2, List.append_nil]
def mkV (L : zab) (k n : Int) (s : List UInt8) (x : AV) : CV := L (L (L (L CV.mk k) n) s) (L rdL x)
def zqj (N : Nat) (v : CV) : Prop := sizeC v <= N /\ N <= 1000000
def zst (N : Nat) (l : List CV) : Prop := sizeCs l <= N /\ N <= 1000000
theorem znr : ∀ l : List CV, l.length <= sizeCs l
 | [] => by simp
 | v :: l => by
   have := znr l
   have := zf1 v
   rw [zbp, List.length_cons]; omega
theorem zvz {N : Nat} {l : List CV} {i : Nat} (h : zst N l) (hi : i < l.length) : zqj N (zdv l i) := by
 have := zl9 l i hi
 exact ⟨by have := h.1; omega, h.2⟩
theorem zcm {N : Nat} {k n : Int} {s : List UInt8} {l : List CV} : zqj (N + 1) (.mk k n s l) = (zst N l /\ N + 1 <= 1000000) := by
 unfold zqj zst
 rw [zcx]
 exact propext ⟨fun h => ⟨⟨by omega, by omega⟩, by omega⟩, fun h => ⟨by have := h.1.1; omega, h.2⟩⟩
theorem zdw (v : CV) : CV.mk v.kd v.nn v.tx (rdL (.lst 4 (zmr v) (zku v))) = v := by rw [(zlh v).1]; exact CV.eta v
theorem zc4 (v : CV) : mkV std v.kd v.nn v.tx (.lst 4 (zmr v) (zku v)) = v := zdw v
theorem rdl (l : List CV) : rdL (.lst 4 (lenL l) fun i => cv1 std (zdv l i)) = l := (ycu l).1
theorem okl (l : List CV) : okL (.lst 4 (lenL l) fun i => cv1 std (zdv l i)) := (ycu l).2
theorem mkl (k n : Int) (s : List UInt8) (l : List CV) : mkV std k n s (.lst 4 (lenL l) fun i => cv1 std (zdv l i)) = .mk k n s l := by
 show CV.mk k n s (rdL _) = _
 rw [rdl]
theorem yn1 {h : Array Obj} {D : Nat -> Prop} {μ : Mu} {a b c x : AV} {v : Value} (ho : okL x) (r : R h D μ (.agg [a, b, c, x]) v) : R h D μ (.agg [a, b, c, cvL std (rdL x)]) v := by
 obtain ⟨us, rfl, o1, s1, hr⟩ := r.inv_agg
 refine .agg _ _ (by rw [<- s1]; rfl) o1 fun i y v hy hv => ?_
 match i, hy with
 | 0, hy => cases hy; exact hr 0 _ v rfl hv
 | 1, hy => cases hy; exact hr 1 _ v rfl hv
 | 2, hy => cases hy; exact hr 2 _ v rfl hv
 | 3, hy => cases hy; exact yv5 (yta x ho (hr 3 _ v rfl hv))
 | i + 4, hy => simp at hy
theorem yx0 {h : Array Obj} {D : Nat -> Prop} {μ : Mu} {x y : AV} {r : List AV} {vs : Array Value} (e : ∀ v, R h D μ x v -> R h D μ y v) (hr : RL h D μ (x :: r) vs) : RL h D μ (y :: r) vs := by
 refine ⟨by rw [<- hr.1]; rfl, fun i z v hz hv => ?_⟩
 cases i with
 | zero => cases hz; exact e v (hr.2 0 x v rfl hv)
 | succ i => exact hr.2 (i + 1) z v hz hv
theorem rl_2 {h : Array Obj} {D : Nat -> Prop} {μ : Mu} {a x y : AV} {r : List AV} {vs : Array Value} (e : ∀ v, R h D μ x v -> R h D μ y v) (hr : RL h D μ (a :: x :: r) vs) : RL h D μ (a :: y :: r) vs := by
 refine ⟨by rw [<- hr.1]; rfl, fun i z v hz hv => ?_⟩
 match i, hz with
 | 0, hz => exact hr.2 0 z v hz hv
 | 1, hz => cases hz; exact e v (hr.2 1 x v rfl hv)
 | i + 2, hz => exact hr.2 (i + 2) z v hz hv
theorem zqb {P : Program} {f : FuncId} {xs ys : List AV} {r : AV} (h : ∀ h D vs, RL h D zav xs vs -> RL h D zav ys vs) (ha : zad P f ys r) : zad P f xs r := fun D w vs hD hx => ha D w vs hD (h _ _ _ hx)
theorem ywf {P : Program} {f : FuncId} {a b c x r : AV} (ho : okL x) (h : zad P f [.agg [a, b, c, cvL std (rdL x)]] r) : zad P f [.agg [a, b, c, x]] r :=
 zqb (fun h D vs hr => yx0 (fun v => yn1 ho) hr) h
theorem ytv {h : Array Obj} {D : Nat -> Prop} {μ : Mu} {x : AV} {v : Value} (ho : okL x) (r : R h D μ x v) : R h D μ (cvL std (rdL x)) v := yv5 (yta x ho r)
theorem ywg {P : Program} {f : FuncId} {x r : AV} {q : List AV} (ho : okL x) (h : zad P f (cvL std (rdL x) :: q) r) : zad P f (x :: q) r :=
 zqb (fun h D vs hr => yx0 (fun v => ytv ho) hr) h
def deepA (L : zab) (l : List CV) : Nat -> St -> Option Ann := fun id s => match id with
 | 0 => some ⟨Nat, fun i => [(12, .int .i64 (L za7 i)), (3, .int .i64 (L2 L zhi l i))], fun i => [], [10, 11], [],
     fun i => L2 L (fun (l : List CV) i => i <= l.length) l i, fun i => L2 L (fun (l : List CV) (i : Nat) => l.length - i) l i⟩
 | _ => none
def zs2 (N : Nat) (L : zab) : zbb := (111, fun xs => match xs with
 | [.agg [.int .i64 k, .int .u64 n, .str s, x]] => some (L okL x /\ L2 L zqj N (mkV L k n s x), .int .i64 (L zdn (mkV L k n s x)))
 | _ => none)
theorem yqj : ∀ v, 0 <= zdn v /\ zdn v <= (sizeC v : Int) := by
 refine yfo fun k n s l ih => ?_
 have : ∀ m : List CV, (∀ v ∈ m, 0 <= zdn v /\ zdn v <= (sizeC v : Int)) -> 0 <= zb4 m /\ zb4 m <= (sizeCs m : Int) := by
   intro m
   induction m with
   | nil => intro _; rw [zb4, zcs]; omega
   | cons v m ih =>
     intro h
     have h1 := h v (by simp)
     have h2 := ih fun w hw => h w (by simp [hw])
     rw [zb4, zbp]; omega
 have := this l ih
 rw [zdn, zcx]
 split <;> omega
theorem yfk (l : List CV) (i : Nat) : 0 <= zhi l i /\ zhi l i <= (sizeCs l : Int) := by
 have h1 : ∀ m : List CV, 0 <= zb4 m /\ zb4 m <= (sizeCs m : Int) := by
   intro m
   induction m with
   | nil => rw [zb4, zcs]; omega
   | cons v m ih => have := yqj v; rw [zb4, zbp]; omega
 have h2 := h1 (l.take i)
 have h3 : ∀ (m : List CV) (i : Nat), sizeCs (m.take i) <= sizeCs m := by
   intro m
   induction m with
   | nil => intro i; simp
   | cons v m ih =>
     intro i
     cases i with
     | zero => rw [List.take_zero, zcs]; omega
     | succ i => have := ih i; rw [List.take_succ_cons, zbp, zbp]; omega
 have := h3 l i
 exact ⟨h2.1, by unfold zhi; omega⟩
theorem yfj : ∀ N, zay Tryz.prog (zs2 N std) := by
 intro N
 induction N with
 | zero =>
   intro xs p r h hp
   unfold zs2 at h
   simp only at h
   split at h
   · rename_i k n s x
     cases h
     have h1 : sizeC (mkV std k n s x) <= 0 := hp.2.1
     have := zf1 (mkV std k n s x)
     omega
   · cases h
 | succ N ih =>
   intro xs p r h hp
   unfold zs2 at h
   simp only at h
   split at h
   · rename_i k n s x
     cases h
     obtain ⟨ho, hz⟩ := hp
     refine ywf ho ?_
     show zad _ _ _ (.int .i64 (zdn (.mk k n s (rdL x))))
     have hz : zqj (N + 1) (.mk k n s (rdL x)) := hz
     generalize rdL x = l at hz |-
     refine za8 (T := tt) (S := fun L => zam [zs2 N L]) (lo := fun L => deepA L l) (lb := noA) 5 (fn := Tryz.f111) (xs := fun L => [.agg [.int .i64 k, .int .u64 n, .str s, cvL L l]]) rfl rfl (by kernel_rfl) (by kernel_rfl) rfl zac
       (za2 ⟨ih, trivial⟩) (by kernel_rfl) ?_
     intro L P' Q' hL hP hQ
     (cbv; try simp only [syT, true_and, and_true])
     refine ⟨fun h => ?_, fun h => ⟨⟨0, ?_⟩, fun i hi => ?_⟩⟩
     · (subst hL; subst hQ; simp only [L2, L3, std] at *; try simp only [syS, reduceCtorEq, Int.reduceToNat, Int.reduceAdd, Int.reduceSub] at *)
       rw [zdn, if_neg h]
     · (cbv; try simp only [syT, true_and, and_true])
       (subst hL; subst hQ; simp only [L2, L3, std] at *; try simp only [syS, reduceCtorEq, Int.reduceToNat, Int.reduceAdd, Int.reduceSub] at *)
       exact ⟨by rw [zhi, List.take_zero, zb4], Nat.zero_le _⟩
     · cbv at hi
       (cbv; try simp only [syT, true_and, and_true])
       refine ⟨fun hlt => ⟨?_, ⟨?_, ?_⟩, ⟨i + 1, ?_⟩⟩, fun hge => ?_⟩
       · (subst hL; subst hQ; simp only [L2, L3, std] at *; try simp only [syS, reduceCtorEq, Int.reduceToNat, Int.reduceAdd, Int.reduceSub] at *)
         omega
       · (subst hL; subst hQ; simp only [L2, L3, std] at *; try simp only [syS, reduceCtorEq, Int.reduceToNat, Int.reduceAdd, Int.reduceSub] at *)
         exact (zlh _).2
       · (subst hL; subst hQ; simp only [L2, L3, std] at *; try simp only [syS, reduceCtorEq, Int.reduceToNat, Int.reduceAdd, Int.reduceSub] at *)
         rw [zdw]
         rw [zcm] at hz
         exact zvz hz.1 (by have : lenL l = l.length := rfl; omega)
       · (cbv; try simp only [syT, true_and, and_true])
         (subst hL; subst hQ; simp only [L2, L3, std] at *; try simp only [syS, reduceCtorEq, Int.reduceToNat, Int.reduceAdd, Int.reduceSub] at *)
         have : lenL l = l.length := rfl
         have := znr l
         have h1 := hz.1
         have h2 := hz.2
         rw [zcx] at h1
         rw [zc4]
         exact ⟨by rw [zuj (by omega)], by omega, by omega, by omega⟩
       · (subst hL; subst hQ; simp only [L2, L3, std] at *; try simp only [syS, reduceCtorEq, Int.reduceToNat, Int.reduceAdd, Int.reduceSub] at *)
         have : lenL l = l.length := rfl
         have hil : i = l.length := by omega
         have h3 := yfk l i
         have h1 := hz.1
         have h2 := hz.2
         rw [zcx] at h1
         rw [zdn, if_pos h, hil, zhi, List.take_length]
         rw [hil, zhi, List.take_length] at h3
         omega
   · cases h
def okG {α : Type} (V : Vw α) : AV -> Prop
 | .agg cs => cs.length = V.sz /\ V.ok (fun j => zbn .dead cs j)
 | _ => False
def rdG {α : Type} (V : Vw α) : AV -> α
 | .agg cs => V.rd (fun j => zbn .dead cs j)
 | _ => V.d
theorem ye4 (cs : List AV) (j : Nat) : zbn .dead cs j = (cs[j]?).getD .dead := by
 induction cs generalizing j with
 | nil => cases j <;> rfl
 | cons x l ih => cases j with
   | zero => rfl
   | succ j => exact ih j
theorem gK {α : Type} {V : Vw α} (K : zso V) (x : α) (cs : List AV) (h : cs = (List.range V.sz).map (V.cell std x)) : okG V (.agg cs) /\ rdG V (.agg cs) = x := by
 have h1 : ∀ j, j < V.sz -> zbn .dead cs j = V.cell std x j := fun j hj => by rw [ye4, h]; simp [hj]
 have h2 := K.back _ x h1
 exact ⟨⟨by simp [h], h2.1⟩, h2.2⟩
theorem G_R {α : Type} {V : Vw α} (K : zso V) {x : AV} (ho : okG V x) {h : Array Obj} {D : Nat -> Prop} {μ : Mu} {v : Value} (r : R h D μ x v) : R h D μ (.agg ((List.range V.sz).map (V.cell std (rdG V x)))) v := by
 match x, ho with
 | .agg cs, ho =>
   obtain ⟨us, rfl, o1, s1, hr⟩ := r.inv_agg
   refine .agg _ _ (by rw [<- s1]; simp [ho.1]) o1 fun i y w hy hw => ?_
   have hi : i < V.sz := by
     have := (List.getElem?_eq_some_iff.1 hy).1
     simpa using this
   simp [hi] at hy
   subst hy
   have hc : cs[i]? = some (zbn .dead cs i) := by
     rw [ye4, List.getElem?_eq_getElem (by rw [ho.1]; exact hi)]; rfl
   exact K.turn _ ho.2 i hi _ _ _ _ (hr i _ w hc hw)
theorem zsn {α : Type} {V : Vw α} (K : zso V) {P : Program} {f : FuncId} {x r : AV} {q : List AV} (ho : okG V x) (h : zad P f (.agg ((List.range V.sz).map (V.cell std (rdG V x))) :: q) r) : zad P f (x :: q) r :=
 zqb (fun h D vs hr => yx0 (fun v => G_R K ho) hr) h
theorem ym3 {α : Type} {V : Vw α} (K : zso V) {P : Program} {f : FuncId} {id ty n : Nat} {get : Nat -> Nat -> AV} {xs : List AV} {O : List (Nat × Ob)} {r : AV} {O1 : List (Nat × Ob)} (ho : okW V (.lst V.sz n get))
   (h : zbj P f xs ((id, .row ty V.sz n (yuf std V (rdW V (.lst V.sz n get)))) :: O) r O1) : zbj P f xs ((id, .row ty V.sz n get) :: O) r O1 := by
 intro D w μ vs hD hxs hdom hobs hinj hown hg hgb
 have e1 : ∀ i, za3 ((id, Ob.row ty V.sz n (yuf std V (rdW V (.lst V.sz n get)))) :: O) i = none ↔ za3 ((id, Ob.row ty V.sz n get) :: O) i = none := by
   intro i
   simp only [za3]
   cases zat id i <;> simp
 have hcall := h D w μ vs hD hxs (fun i => (hdom i).trans (e1 i).symm) (fun i o x ho1 hx => ?_) hinj hown hg hgb
 · unfold zek at hcall |-
   have key : ∀ e w', (∃ v D' μ', yrn D w μ ((id, .row ty V.sz n (yuf std V (rdW V (.lst V.sz n get)))) :: O) O1 r e v w' D' μ') -> ∃ v D' μ', yrn D w μ ((id, .row ty V.sz n get) :: O) O1 r e v w' D' μ' := by
     rintro e w' ⟨v, D', μ', m⟩
     exact ⟨v, D', μ', { m with keep := fun i h1 h2 => m.keep i (fun h3 => h1 ((e1 i).1 h3)) h2 }⟩
   split at hcall
   · exact hcall.mono fun e w' h => key e w' h
   · exact key _ _ hcall
   · exact hcall.elim
 · simp only [za3] at ho1
   by_cases hi : id = i
   · subst hi
     rw [za6] at ho1
     cases ho1
     have := hobs id (.row ty V.sz n get) x (by simp [za3, za6]) hx
     match x, this with
     | some (b, z, m), ⟨r0, c, t, fr, e, r1, r2, r3, r4⟩ =>
       refine ⟨r0, c, t, fr, e, r1, r2, r3, fun i j hi hj => ?_⟩
       obtain ⟨v, v1, v2, v3⟩ := r4 i j hi hj
       refine ⟨v, v1, v2, ?_⟩
       show R w.heap D zav (V.cell std (zi0 V (rdW V (.lst V.sz n get)) i) j) v
       rw [ycv hi]
       exact K.turn _ (ho.2 i hi) j hj _ _ _ _ v3
     | none, h0 => exact h0
   · rw [zan hi] at ho1
     exact hobs i o x (by simp [za3, zan hi, ho1]) hx
def upN (n : Nat) : Prop := n <= 1000000
theorem yno (c : Bool) (x y : AV) : zqd c x y = if c = true then x else y := by cases c <;> rfl
theorem ybu (off n e : Nat) : (zdk off n e = true) = (off <= e /\ e < off + n) := by simp [zdk, zbx, zbk]
def fOf (n : Int) : Nat := FloatKind.f64.nearest n
def zx0 (n : Nat) : Nat := n * 2 ^ (52 - n.log2)
theorem zmb {n : Nat} (h0 : 0 < n) (h : n < 2 ^ 53) : 2 ^ 52 <= zx0 n /\ zx0 n < 2 ^ 53 /\ n.log2 <= 52 := by
 have h1 := Nat.log2_self_le (n := n) (by omega)
 have h2 := Nat.lt_log2_self (n := n)
 have hl : n.log2 <= 52 := by
   have := (Nat.log2_lt (n := n) (k := 53) (by omega)).2 h
   omega
 refine ⟨?_, ?_, hl⟩
 · calc 2 ^ 52 = 2 ^ n.log2 * 2 ^ (52 - n.log2) := by rw [<- Nat.pow_add]; congr 1; omega
     _ <= zx0 n := Nat.mul_le_mul_right _ h1
 · calc zx0 n < 2 ^ (n.log2 + 1) * 2 ^ (52 - n.log2) := Nat.mul_lt_mul_of_pos_right h2 (Nat.two_pow_pos _)
     _ = 2 ^ 53 := by rw [<- Nat.pow_add]; congr 1; omega
theorem cut_0 (neg : Bool) (n : Nat) : Ieee.Toward.even.cut neg n 0 = n := by
 unfold Ieee.Toward.cut
 simp [Nat.mod_one]
theorem zwz {n : Nat} (h0 : 0 < n) (h : n < 2 ^ 53) : fOf n = (n.log2 + 1022) * 2 ^ 52 + zx0 n := by
 obtain ⟨h1, h2, h3⟩ := zmb h0 h
 have e1 : fOf n = Ieee.double.nearest (decide ((n : Int) < 0)) n 0 := rfl
 rw [e1, decide_eq_false (by omega)]
 unfold Ieee.Format.nearest
 rw [if_neg (by omega)]
 have hl : max ((0 : Int) + (n.log2 : Int) - ((Ieee.double.fractionBits : Nat) : Int)) Ieee.double.leastPlace = (n.log2 : Int) - 52 := by
   have e1 : Ieee.double.leastPlace = -1074 := by decide
   have e2 : ((Ieee.double.fractionBits : Nat) : Int) = 52 := rfl
   rw [e1, e2]; omega
 simp only [hl]
 rw [show ((n.log2 : Int) - 52 - 0).toNat = 0 by omega, cut_0, show ((0 : Int) - ((n.log2 : Int) - 52)).toNat = 52 - n.log2 by omega, Nat.shiftLeft_eq]
 have e3 : ((n.log2 : Int) - 52 - Ieee.double.leastPlace).toNat = n.log2 + 1022 := by
   have e1 : Ieee.double.leastPlace = -1074 := by decide
   rw [e1]; omega
 rw [e3]
 show Ieee.double.word false (min ((n.log2 + 1022) * 2 ^ 52 + zx0 n) (2047 * 2 ^ 52)) = _
 rw [Nat.min_eq_left]
 · unfold Ieee.Format.word
   rw [if_neg (by decide)]
 · have h4 : (n.log2 + 1022) * 2 ^ 52 <= 1074 * 2 ^ 52 := Nat.mul_le_mul_right _ (by omega)
   exact Nat.le_trans (Nat.add_le_add h4 (Nat.le_of_lt h2)) (by decide)
theorem zpu {n : Nat} (h0 : 0 < n) (h : n < 2 ^ 53) : FloatKind.f64.decode (fOf n) = .number false (zx0 n) ((n.log2 : Int) - 52) := by
 obtain ⟨h1, h2, h3⟩ := zmb h0 h
 have hw := zwz h0 h
 obtain ⟨r, hr⟩ : ∃ r, zx0 n = 2 ^ 52 + r /\ r < 2 ^ 52 := ⟨zx0 n - 2 ^ 52, by omega, by omega⟩
 have hw2 : fOf n = (n.log2 + 1023) * 2 ^ 52 + r := by rw [hw, hr.1]; omega
 have hb : (n.log2 + 1023) * 2 ^ 52 <= 1075 * 2 ^ 52 := Nat.mul_le_mul_right _ (by omega)
 have hb0 : 1023 * 2 ^ 52 <= (n.log2 + 1023) * 2 ^ 52 := Nat.mul_le_mul_right _ (by omega)
 have hlt : fOf n < 2 ^ 63 := by omega
 show Ieee.double.read (fOf n) = _
 unfold Ieee.Format.read
 have es : Ieee.double.signWeight = 2 ^ 63 := by decide
 have eb : Ieee.double.binade = 2 ^ 52 := by decide
 have ei : Ieee.double.infRung = 2047 * 2 ^ 52 := by decide
 have el : Ieee.double.leastPlace = -1074 := by decide
 simp only [es, eb, ei, el]
 rw [Nat.div_eq_of_lt hlt, Nat.mod_eq_of_lt hlt, if_neg (by omega), if_pos (by omega)]
 have hm : fOf n % 2 ^ 52 = r := by rw [hw2]; omega
 have hd : fOf n / 2 ^ 52 = n.log2 + 1023 := by rw [hw2]; omega
 rw [hm, hd]
 have e2 : ((0 % 2 == 1) : Bool) = false := rfl
 rw [e2, hr.1]
 congr 1
 omega
theorem yum : FloatKind.f64.decode (fOf 0) = .number false 0 (-1074) := by decide
theorem ziw {a b : Nat} (ha : a < 2 ^ 53) (hb : b < 2 ^ 53) : FloatKind.f64.format.order (fOf a) (fOf b) = some (compare a b) := by
 have key : ∀ n : Nat, n < 2 ^ 53 -> ∃ m i, FloatKind.f64.decode (fOf n) = .number false m i /\ i <= 0 /\ ∀ base : Int, base <= i -> m * 2 ^ (i - base).toNat = n * 2 ^ (-base).toNat := by
   intro n h
   by_cases h0 : n = 0
   · subst h0
     exact ⟨0, -1074, yum, by decide, fun base hb => by simp⟩
   · obtain ⟨h1, h2, h3⟩ := zmb (n := n) (by omega) h
     refine ⟨_, _, zpu (by omega) h, by omega, fun base hb => ?_⟩
     unfold zx0
     rw [Nat.mul_assoc, <- Nat.pow_add]
     congr 2
     omega
 obtain ⟨m, i, r1, l1, k1⟩ := key a ha
 obtain ⟨m', j, r2, l2, k2⟩ := key b hb
 have e : FloatKind.f64.format.order (fOf a) (fOf b) = (FloatKind.f64.decode (fOf a)).order (FloatKind.f64.decode (fOf b)) := rfl
 rw [e, r1, r2]
 unfold Ieee.Datum.order
 simp only
 have h1 := k1 (min i j) (by omega)
 have h2 := k2 (min i j) (by omega)
 congr 1
 unfold Ieee.signed
 rw [if_neg (by decide), if_neg (by decide), Nat.shiftLeft_eq, Nat.shiftLeft_eq, h1, h2]
 have hp : 0 < 2 ^ (-min i j).toNat := Nat.two_pow_pos _
 rw [show compare ((a * 2 ^ (-min i j).toNat : Nat) : Int) ((b * 2 ^ (-min i j).toNat : Nat) : Int) = compare a b from by
   generalize 2 ^ (-min i j).toNat = p at hp
   rcases Nat.lt_trichotomy a b with h | h | h
   · rw [Nat.compare_eq_lt.2 h]
     have := Nat.mul_lt_mul_of_pos_right h hp
     exact Int.compare_eq_lt.2 (by omega)
   · subst h
     rw [Nat.compare_eq_eq.2 rfl]
     exact Int.compare_eq_eq.2 rfl
   · rw [Nat.compare_eq_gt.2 h]
     have := Nat.mul_lt_mul_of_pos_right h hp
     exact Int.compare_eq_gt.2 (by omega)]
def zma (x : Nat) : Nat := FloatKind.f64.encode ((FloatKind.f64.decode x).integral .zero)
theorem zr9 {n k : Nat} (h : n ≠ 0) : (n * 2 ^ k).log2 = n.log2 + k := by
 have h1 := Nat.log2_self_le h
 have h2 := Nat.lt_log2_self (n := n)
 have hp : 0 < 2 ^ k := Nat.two_pow_pos _
 have h0 : n * 2 ^ k ≠ 0 := Nat.mul_ne_zero h (by omega)
 apply Nat.le_antisymm
 · have : (n * 2 ^ k).log2 < n.log2 + k + 1 := (Nat.log2_lt h0).2 (by
     calc n * 2 ^ k < 2 ^ (n.log2 + 1) * 2 ^ k := Nat.mul_lt_mul_of_pos_right h2 hp
       _ = 2 ^ (n.log2 + k + 1) := by rw [<- Nat.pow_add]; congr 1; omega)
   omega
 · exact (Nat.le_log2 h0).2 (by
     calc 2 ^ (n.log2 + k) = 2 ^ n.log2 * 2 ^ k := Nat.pow_add ..
       _ <= n * 2 ^ k := Nat.mul_le_mul_right _ h1)
theorem yfa {n : Nat} (h : n < 2 ^ 53) : zma (fOf n) = fOf n := by
 by_cases h0 : n = 0
 · subst h0; decide
 · obtain ⟨h1, h2, h3⟩ := zmb (n := n) (by omega) h
   unfold zma
   rw [zpu (by omega) h]
   have e : (Ieee.Datum.number false (zx0 n) ((n.log2 : Int) - 52)).integral .zero = .number false n 0 := by
     unfold Ieee.Datum.integral
     simp only
     congr 1
     rw [show ((n.log2 : Int) - 52).toNat = 0 by omega, show (-((n.log2 : Int) - 52)).toNat = 52 - n.log2 by omega, Nat.shiftLeft_eq, Nat.pow_zero, Nat.mul_one]
     unfold Ieee.Toward.cut
     simp only
     have hm : (zx0 n).log2 = 52 := by
       unfold zx0
       rw [zr9 h0]; omega
     rw [hm, Nat.min_eq_left (by omega), Nat.shiftLeft_eq, Nat.one_mul]
     unfold zx0
     rw [Nat.mul_div_cancel _ (Nat.two_pow_pos _)]
     rfl
   rw [e]
   unfold fOf FloatKind.nearest
   rw [decide_eq_false (by omega)]
   rfl
theorem ymh {n : Nat} (h : n < 2 ^ 53) : fOf n < 2 ^ 63 := by
 by_cases h0 : n = 0
 · subst h0; decide
 · obtain ⟨h1, h2, h3⟩ := zmb (n := n) (by omega) h
   rw [zwz (by omega) h]
   have hb : (n.log2 + 1022) * 2 ^ 52 <= 1074 * 2 ^ 52 := Nat.mul_le_mul_right _ (by omega)
   exact Nat.lt_of_le_of_lt (Nat.add_le_add hb (Nat.le_of_lt h2)) (by decide)
def zzr (b : Nat) : Prop := ∃ n : Nat, n < 2 ^ 53 /\ b = fOf n
def yl6 (L : zab) : zbb := (98, fun xs => match xs with
 | [.flt .f64 b] => some (L zzr b, .flt .f64 (L zma b))
 | _ => none)
theorem yl7 : zay Tryz.prog (yl6 std) := by
 intro xs p r h hp
 dsimp only [yl6] at h
 split at h
 rotate_left
 · cases h
 rename_i b
 cases h
 have h1 : Tryz.prog.funcs[98]? = some Tryz.f98 := rfl
 have h2 : (Tryz.f98.name == "runtime.NumGoroutine") = false := by kernel_rfl
 have h3 : Tryz.f98.body.isNone = true := by kernel_rfl
 have h4 : Extern.findNext Tryz.f98 = none := by kernel_rfl
 have h5 : Extern.find Tryz.f98 = some (Extern.MathFloor.toIntegral "math.archTrunc" .zero) := by kernel_rfl
 intro D w vs hD hxs hgo
 obtain ⟨v, hv⟩ : ∃ v, vs.toList = [v] := by
   have hl : vs.toList.length = 1 := by simpa using hxs.1.symm
   match vs.toList, hl with
   | [a], _ => exact ⟨a, rfl⟩
 have : vs = #[v] := by rw [<- Array.toArray_toList (xs := vs), hv]
 subst this
 obtain ⟨n, hn, rfl⟩ : zzr b := hp
 have r1 : R w.heap D zav (.flt .f64 (fOf n)) v := hxs.2 0 _ v rfl rfl
 have := r1.inv_flt; subst this
 have key : (Extern.MathFloor.toIntegral "math.archTrunc" .zero #[.float .f64 (fOf n)]).run Tryz.prog w = .ok (.float .f64 (zma (fOf n))) w := by
   have hd : ∃ m i, FloatKind.f64.decode (fOf n) = .number false m i := by
     by_cases h0 : n = 0
     · subst h0; exact ⟨_, _, yum⟩
     · exact ⟨_, _, zpu (by omega) hn⟩
   obtain ⟨m, i, hd⟩ := hd
   have key0 : ∀ x, ∃ a b, Extern.MathFloor.toIntegral "math.archTrunc" .zero #[.float .f64 x] = Extern.MathFloor.toIntegral.match_1 (fun _ => Sem Value) (FloatKind.f64.decode x) a b /\ ∀ d, b d = pure (.float .f64 (FloatKind.f64.encode (d.integral .zero))) := fun x => ⟨_, _, rfl, fun _ => rfl⟩
   obtain ⟨a, b, e1, e2⟩ := key0 (fOf n)
   unfold zma
   rw [e1, hd]
   show Sem.run _ (b (.number false m i)) w = _
   rw [e2]
   rfl
 unfold zek
 rw [show (yl6 std).fst = 98 from rfl, run_callFunc_extern h1 h2 h3 h4 h5, key]
 exact ⟨_, D, rfl, Below.refl _ _, fun _ h => h, fun b hb => .inl hb, .flt _ _⟩
def yq5 (b : Nat) : Int := b
def zm9 (L : zab) : zbb := (101, fun xs => match xs with
 | [.flt .f64 b] => some (True, .int .u64 (L yq5 b))
 | _ => none)
theorem zo4 : zay Tryz.prog (zm9 std) := by
 intro xs p r h hp
 dsimp only [zm9] at h
 split at h
 rotate_left
 · cases h
 rename_i b
 cases h
 have h1 : Tryz.prog.funcs[101]? = some Tryz.f101 := rfl
 have h2 : (Tryz.f101.name == "runtime.NumGoroutine") = false := by kernel_rfl
 have h3 : Tryz.f101.body.isNone = true := by kernel_rfl
 have h4 : Extern.findNext Tryz.f101 = none := by kernel_rfl
 have h5 : Extern.find Tryz.f101 = some Extern.MathFloatBits.float64bits := by kernel_rfl
 intro D w vs hD hxs hgo
 obtain ⟨v, hv⟩ : ∃ v, vs.toList = [v] := by
   have hl : vs.toList.length = 1 := by simpa using hxs.1.symm
   match vs.toList, hl with
   | [a], _ => exact ⟨a, rfl⟩
 have : vs = #[v] := by rw [<- Array.toArray_toList (xs := vs), hv]
 subst this
 have r1 : R w.heap D zav (.flt .f64 b) v := hxs.2 0 _ v rfl rfl
 have := r1.inv_flt; subst this
 have key : (Extern.MathFloatBits.float64bits #[.float .f64 b]).run Tryz.prog w = .ok (.int .u64 (yq5 b)) w := rfl
 unfold zek
 rw [show (zm9 std).fst = 101 from rfl, run_callFunc_extern h1 h2 h3 h4 h5, key]
 exact ⟨_, D, rfl, Below.refl _ _, fun _ h => h, fun b hb => .inl hb, .int _ _⟩
def zpt (L : zab) : zbb := (100, fun xs => match xs with
 | [.int .u64 b] => some (True, .flt .f64 (L Int.toNat b))
 | _ => none)
theorem zzq : zay Tryz.prog (zpt std) := by
 intro xs p r h hp
 dsimp only [zpt] at h
 split at h
 rotate_left
 · cases h
 rename_i b
 cases h
 have h1 : Tryz.prog.funcs[100]? = some Tryz.f100 := rfl
 have h2 : (Tryz.f100.name == "runtime.NumGoroutine") = false := by kernel_rfl
 have h3 : Tryz.f100.body.isNone = true := by kernel_rfl
 have h4 : Extern.findNext Tryz.f100 = none := by kernel_rfl
 have h5 : Extern.find Tryz.f100 = some Extern.MathFloatBits.float64frombits := by kernel_rfl
 intro D w vs hD hxs hgo
 obtain ⟨v, hv⟩ : ∃ v, vs.toList = [v] := by
   have hl : vs.toList.length = 1 := by simpa using hxs.1.symm
   match vs.toList, hl with
   | [a], _ => exact ⟨a, rfl⟩
 have : vs = #[v] := by rw [<- Array.toArray_toList (xs := vs), hv]
 subst this
 have r1 : R w.heap D zav (.int .u64 b) v := hxs.2 0 _ v rfl rfl
 have := r1.inv_int; subst this
 have key : (Extern.MathFloatBits.float64frombits #[.int .u64 b]).run Tryz.prog w = .ok (.float .f64 b.toNat) w := rfl
 unfold zek
 rw [show (zpt std).fst = 100 from rfl, run_callFunc_extern h1 h2 h3 h4 h5, key]
 exact ⟨_, D, rfl, Below.refl _ _, fun _ h => h, fun b hb => .inl hb, .flt _ _⟩
theorem zx1 {n : Nat} (h : n < 2 ^ 53) : fEq .f64 (fOf n) (fOf n) = true := by
 unfold fEq yq1
 rw [ziw h h, Nat.compare_eq_eq.2 rfl]; rfl
theorem ymi {a b : Nat} (ha : a < 2 ^ 53) (hb : b < 2 ^ 53) : fLt .f64 (fOf a) (fOf b) = decide (a < b) := by
 unfold fLt yq1
 rw [ziw ha hb]
 rcases Nat.lt_trichotomy a b with h | h | h
 · rw [Nat.compare_eq_lt.2 h, decide_eq_true h]; rfl
 · rw [Nat.compare_eq_eq.2 h, decide_eq_false (by omega)]; rfl
 · rw [Nat.compare_eq_gt.2 h, decide_eq_false (by omega)]; rfl
theorem yup {a b : Nat} (ha : a < 2 ^ 53) (hb : b < 2 ^ 53) : fGt .f64 (fOf a) (fOf b) = decide (b < a) := by
 unfold fGt yq1
 rw [ziw ha hb]
 rcases Nat.lt_trichotomy a b with h | h | h
 · rw [Nat.compare_eq_lt.2 h, decide_eq_false (by omega)]; rfl
 · rw [Nat.compare_eq_eq.2 h, decide_eq_false (by omega)]; rfl
 · rw [Nat.compare_eq_gt.2 h, decide_eq_true h]; rfl
theorem yfb {a b : Nat} (ha : a < 2 ^ 53) (hb : b < 2 ^ 53) : fEq .f64 (fOf a) (fOf b) = decide (a = b) := by
 unfold fEq yq1
 rw [ziw ha hb]
 rcases Nat.lt_trichotomy a b with h | h | h
 · rw [Nat.compare_eq_lt.2 h, decide_eq_false (by omega)]; rfl
 · rw [Nat.compare_eq_eq.2 h, decide_eq_true h]; rfl
 · rw [Nat.compare_eq_gt.2 h, decide_eq_false (by omega)]; rfl
theorem yuo {a b : Nat} (ha : a < 2 ^ 53) (hb : b < 2 ^ 53) : fLe .f64 (fOf a) (fOf b) = decide (a <= b) := by
 unfold fLe
 rw [ymi ha hb, yfb ha hb]
 by_cases h : a <= b
 · rw [decide_eq_true h]
   by_cases h2 : a < b
   · rw [decide_eq_true h2]; rfl
   · rw [decide_eq_true (show a = b by omega), Bool.or_true]
 · rw [decide_eq_false h, decide_eq_false (by omega), decide_eq_false (by omega)]; rfl
theorem ygo {b : Nat} (h : b < 2 ^ 63) : ygp .u64 (yq5 b) 9223372036854775808 = (b : Int) := by
 unfold ygp yq5
 have e1 : (BitVec.ofInt IntKind.u64.bits (b : Int)).toNat = b := by
   rw [show IntKind.u64.bits = 64 from rfl]
   simp only [BitVec.toNat_ofInt]
   omega
 have e2 : (~~~(BitVec.ofInt IntKind.u64.bits 9223372036854775808)).toNat = 2 ^ 63 - 1 := by decide
 rw [BitVec.toNat_and, e1, e2, Nat.and_two_pow_sub_one_of_lt_two_pow h, ysd]
 omega
def yps (L : zab) : zbb := (75, fun xs => match xs with
 | [.flt .f64 b] => some (L zzr b, .flt .f64 (L zma b))
 | _ => none)
theorem ykb : zay Tryz.prog (yps std) := by
 intro xs p r h hp
 dsimp only [yps] at h |-
 split at h <;> cases h
 try simp only [L2, L3, std] at hp |-
 rename_i b
 refine zaa (T := tt) (S := fun L => zam [yl6 L]) (lo := noA) (lb := noA) 5 (fn := Tryz.f75) rfl rfl (by kernel_rfl) (by kernel_rfl) rfl zac (za2 ⟨yl7, trivial⟩) (by kernel_rfl) ?_
 intro L P' Q' hL hP hQ
 (cbv; try simp only [syT, true_and, and_true])
 subst hL; subst hQ
 exact ⟨hp, by rw [zit]; rfl⟩
def yq0 (L : zab) : zbb := (76, fun xs => match xs with
 | [.flt .f64 b] => some (L zzr b, .flt .f64 b)
 | _ => none)
theorem ykm : zay Tryz.prog (yq0 std) := by
 intro xs p r h hp
 dsimp only [yq0] at h |-
 split at h <;> cases h
 try simp only [L2, L3, std] at hp |-
 rename_i b
 refine zaa (T := tt) (S := fun L => zam [zm9 L, zpt L]) (lo := noA) (lb := noA) 5 (fn := Tryz.f76) rfl rfl (by kernel_rfl) (by kernel_rfl) rfl zac (za2 ⟨zo4, zzq, trivial⟩) (by kernel_rfl) ?_
 intro L P' Q' hL hP hQ
 (cbv; try simp only [syT, true_and, and_true])
 subst hL; subst hQ
 obtain ⟨n, hn, rfl⟩ : zzr b := hp
 rw [zit]
 show Int.toNat (ygp .u64 (yq5 (fOf n)) 9223372036854775808) = fOf n
 rw [ygo (ymh hn), Int.toNat_natCast]
def ypt (L : zab) : zbb := (77, fun xs => match xs with
 | [.flt .f64 b] => some (L zzr b, .bool false)
 | _ => none)
theorem ykc : zay Tryz.prog (ypt std) := by
 intro xs p r h hp
 dsimp only [ypt] at h |-
 split at h <;> cases h
 try simp only [L2, L3, std] at hp |-
 rename_i b
 refine zaa (T := tt) (S := fun L => zam [zm9 L]) (lo := noA) (lb := noA) 5 (fn := Tryz.f77) rfl rfl (by kernel_rfl) (by kernel_rfl) rfl zac (za2 ⟨zo4, trivial⟩) (by kernel_rfl) ?_
 intro L P' Q' hL hP hQ
 (cbv; try simp only [syT, true_and, and_true])
 subst hL; subst hQ
 obtain ⟨n, hn, rfl⟩ : zzr b := hp
 have := ymh hn
 rw [zah]
 show ilt (IntKind.i64.wrap (yq5 (fOf n))) 0 = false
 rw [zeh, zha]
 unfold yq5
 omega
def yrz (b : Nat) : Prop := ∃ n : Nat, n <= 2 ^ 40 /\ b = fOf n
def ypr (L : zab) : zbb := (60, fun xs => match xs with
 | [.flt .f64 b] => some (L yrz b, .bool true)
 | _ => none)
theorem yka : zay Tryz.prog (ypr std) := by
 intro xs p r h hp
 dsimp only [ypr] at h |-
 split at h <;> cases h
 try simp only [L2, L3, std] at hp |-
 rename_i b
 refine zaa (T := tt) (S := fun L => zam [yps L, yq0 L, ypt L]) (lo := noA) (lb := noA) 5 (fn := Tryz.f60) rfl rfl (by kernel_rfl) (by kernel_rfl) rfl zac (za2 ⟨ykb, ykm, ykc, trivial⟩) (by kernel_rfl) ?_
 intro L P' Q' hL hP hQ
 (cbv; try simp only [syT, true_and, and_true])
 subst hL; subst hQ
 obtain ⟨n, hn, rfl⟩ : yrz b := hp
 have hn53 : n < 2 ^ 53 := Nat.lt_of_le_of_lt hn (by decide)
 have hN : zzr (fOf n) := ⟨n, hn53, rfl⟩
 have e1 : fEq .f64 (fOf n) (zma (fOf n)) = true := by rw [yfa hn53]; exact zx1 hn53
 have e2 : fLe .f64 (fOf n) 4787326403894837248 = true := by
   have := yuo (a := n) (b := 2 ^ 40) hn53 (by decide)
   rw [decide_eq_true hn] at this
   exact this
 refine ⟨hN, fun _ => ⟨hN, fun _ => ⟨fun _ => ⟨hN, ?_⟩, fun _ => ?_⟩, fun h => ?_⟩, fun h => ?_⟩
 · rw [zah]; rfl
 · rw [zah]; rfl
 · exact absurd (e2.symm.trans h) (by decide)
 · exact absurd (e1.symm.trans h) (by decide)
theorem zkr {b : Nat} (h : yrz b) : zzr b := by
 obtain ⟨n, hn, rfl⟩ := h
 exact ⟨n, Nat.lt_of_le_of_lt hn (by decide), rfl⟩
def yf9 (a b : Nat) : Prop := yrz a /\ yrz b
def yd6 (L : zab) : zbb := (41, fun xs => match xs with
 | [.cpx .f64 a b] => some (L2 L yf9 a b, .bool true)
 | _ => none)
theorem zp1 : zay Tryz.prog (yd6 std) := by
 intro xs p r h hp
 dsimp only [yd6] at h |-
 split at h <;> cases h
 try simp only [L2, L3, std] at hp |-
 rename_i a b
 refine zaa (T := tt) (S := fun L => zam [ypr L]) (lo := noA) (lb := noA) 5 (fn := Tryz.f41) rfl rfl (by kernel_rfl) (by kernel_rfl) rfl zac (za2 ⟨yka, trivial⟩) (by kernel_rfl) ?_
 intro L P' Q' hL hP hQ
 (cbv; try simp only [syT, true_and, and_true])
 subst hL; subst hQ
 obtain ⟨h1, h2⟩ : yf9 a b := hp
 exact ⟨h1, fun _ => ⟨h2, by rw [zah]⟩, fun h => by cases h⟩
def zvx (a b : Int) : Prop := 0 <= a /\ a <= 1099511627776 /\ 0 <= b /\ b <= 1099511627776
def yip (L : zab) : zbb := (32, fun xs => match xs with
 | [.int .i64 a, .int .i64 b] => some (L2 L zvx a b, .tup [.cpx .f64 (L fOf a) (L fOf b), .int .i64 0])
 | _ => none)
theorem zvo : zay Tryz.prog (yip std) := by
 intro xs p r h hp
 dsimp only [yip] at h |-
 split at h <;> cases h
 try simp only [L2, L3, std] at hp |-
 rename_i a b
 refine zaa (T := tt) (S := noS) (lo := noA) (lb := noA) 5 (fn := Tryz.f32) rfl rfl (by kernel_rfl) (by kernel_rfl) rfl zac (zc2 _) (by kernel_rfl) ?_
 intro L P' Q' hL hP hQ
 (cbv; try simp only [syT, true_and, and_true])
 subst hL; subst hQ
 obtain ⟨h1, h2, h3, h4⟩ : zvx a b := hp
 refine ⟨fun h => ?_, fun _ => ⟨fun h => ?_, fun _ => ?_⟩⟩
 · have h : ilt 1099511627776 (yu3 a b) = true := h
   rw [zcp, yel] at h
   omega
 · have h : ilt (yxx a b) (-1099511627776) = true := h
   rw [zcp, yek] at h
   omega
 · rw [zko, zde, zde, ziu, zrt, zgr]
   exact ⟨⟨rfl, rfl⟩, rfl, trivial⟩
def yun (a b : Nat) : Prop := zzr a /\ zzr b
def yfc (a b : Nat) : Int := if fLt .f64 a b = true then -1 else if fGt .f64 a b = true then 1 else 0
def ypu (L : zab) : zbb := (61, fun xs => match xs with
 | [.flt .f64 a] => some (L zzr a, .bool false)
 | _ => none)
theorem ykd : zay Tryz.prog (ypu std) := by
 intro xs p r h hp
 dsimp only [ypu] at h |-
 split at h <;> cases h
 try simp only [L2, L3, std] at hp |-
 rename_i a
 refine zaa (T := tt) (S := noS) (lo := noA) (lb := noA) 5 (fn := Tryz.f61) rfl rfl (by kernel_rfl) (by kernel_rfl) rfl zac (zc2 _) (by kernel_rfl) ?_
 intro L P' Q' hL hP hQ
 (cbv; try simp only [syT, true_and, and_true])
 subst hL; subst hQ
 obtain ⟨n, hn, rfl⟩ : zzr a := hp
 rw [zah]
 show (!(fEq .f64 (fOf n) (fOf n))) = false
 rw [zx1 hn]; rfl
def ypz (L : zab) : zbb := (42, fun xs => match xs with
 | [.flt .f64 a, .flt .f64 b] => some (L2 L yun a b, .int .i64 (L2 L yfc a b))
 | _ => none)
theorem ykl : zay Tryz.prog (ypz std) := by
 intro xs p r h hp
 dsimp only [ypz] at h |-
 split at h <;> cases h
 try simp only [L2, L3, std] at hp |-
 rename_i a b
 refine zaa (T := tt) (S := fun L => zam [ypu L]) (lo := noA) (lb := noA) 5 (fn := Tryz.f42) rfl rfl (by kernel_rfl) (by kernel_rfl) rfl zac (za2 ⟨ykd, trivial⟩) (by kernel_rfl) ?_
 intro L P' Q' hL hP hQ
 (cbv; try simp only [syT, true_and, and_true])
 subst hL; subst hQ
 obtain ⟨h1, h2⟩ : yun a b := hp
 refine ⟨h1, h2, fun h => (by cases h), fun _ => ⟨fun h => (by cases h), fun _ => ⟨fun h => ?_, fun h => ⟨fun h' => ?_, fun h' => ?_⟩⟩⟩⟩
 · have h : fLt .f64 a b = true := h
   rw [zer, yfc, if_pos h]
 · have h : fLt .f64 a b = false := h
   have h' : fGt .f64 a b = true := h'
   rw [zer, yfc, if_neg (by rw [h]; decide), if_pos h']
 · have h : fLt .f64 a b = false := h
   have h' : fGt .f64 a b = false := h'
   rw [zer, yfc, if_neg (by rw [h]; decide), if_neg (by rw [h']; decide)]
theorem zpv {a b : Nat} (ha : a < 2 ^ 53) (hb : b < 2 ^ 53) : yfc (fOf a) (fOf b) = if a < b then -1 else if b < a then 1 else 0 := by
 unfold yfc
 rw [ymi ha hb, yup ha hb]
 simp only [decide_eq_true_eq]
def cSml (a b c d : Nat) : Prop := yf9 a b /\ yf9 c d
def ymt (a b c d : Nat) : Int := if yfc a c = 0 then yfc b d else yfc a c
def yiq (L : zab) : zbb := (21, fun xs => match xs with
 | [.cpx .f64 a b, .cpx .f64 c d] => some (L (L3 L cSml a b c) d, .int .i64 (L (L3 L ymt a b c) d))
 | _ => none)
theorem zvp : zay Tryz.prog (yiq std) := by
 intro xs p r h hp
 dsimp only [yiq] at h |-
 split at h <;> cases h
 try simp only [L2, L3, std] at hp |-
 rename_i a b c d
 refine zaa (T := tt) (S := fun L => zam [yd6 L, ypz L]) (lo := noA) (lb := noA) 5 (fn := Tryz.f21) rfl rfl (by kernel_rfl) (by kernel_rfl) rfl zac (za2 ⟨zp1, ykl, trivial⟩) (by kernel_rfl) ?_
 intro L P' Q' hL hP hQ
 (cbv; try simp only [syT, true_and, and_true])
 subst hL; subst hQ
 obtain ⟨⟨h1, h2⟩, h3, h4⟩ : cSml a b c d := hp
 have n1 := zkr h1
 have n2 := zkr h2
 have n3 := zkr h3
 have n4 := zkr h4
 refine ⟨⟨h1, h2⟩, fun h => (by cases h), fun _ => ⟨⟨h3, h4⟩, fun h => (by cases h), fun _ => ⟨⟨n1, n3⟩, fun h => ?_, fun h => ⟨⟨n2, n4⟩, ?_⟩⟩⟩⟩
 · have h : ine (yfc a c) 0 = true := h
   rw [yju] at h
   rw [zer, ymt, if_neg h]; rfl
 · have h : ine (yfc a c) 0 = false := h
   rw [yjv] at h
   rw [zer, ymt, if_pos h]; rfl
def yk6 : Nat := 4787326403894837248
def ypm : Nat := 14010698440749613056
def zww (b : Nat) : Prop := ymj .f64 b yk6 = true /\ ymj .f64 (yq2 .f64 b yk6) ypm = true /\ fIs .add .f64 (ys0 .f64 (yq2 .f64 b yk6) ypm) 0 = true
def ypl (b : Nat) : Nat := ykn .add .f64 (ys0 .f64 (yq2 .f64 b yk6) ypm) 0
def ypk (L : zab) : zbb := (102, fun xs => match xs with
 | [.flt .f64 b] => some (L zww b, .flt .f64 (L ypl b))
 | _ => none)
theorem yk5 : zay Tryz.prog (ypk std) := by
 intro xs p r h hp
 dsimp only [ypk] at h |-
 split at h <;> cases h
 try simp only [L2, L3, std] at hp |-
 rename_i b
 refine zaa (T := tt) (S := noS) (lo := noA) (lb := noA) 5 (fn := Tryz.f102) rfl rfl (by kernel_rfl) (by kernel_rfl) rfl zac (zc2 _) (by kernel_rfl) ?_
 intro L P' Q' hL hP hQ
 (cbv; try simp only [syT, true_and, and_true])
 subst hL; subst hQ
 obtain ⟨h1, h2, h3⟩ : zww b := hp
 refine ⟨h1, h2, h3, ?_⟩
 rw [zit]; rfl
def tdOk (a b : Nat) : Prop := zww a /\ zww b
def yn9 (L : zab) : zbb := (80, fun xs => match xs with
 | [.cpx .f64 a b] => some (L2 L tdOk a b, .cpx .f64 (L ypl a) (L ypl b))
 | _ => none)
theorem yhl : zay Tryz.prog (yn9 std) := by
 intro xs p r h hp
 dsimp only [yn9] at h |-
 split at h <;> cases h
 try simp only [L2, L3, std] at hp |-
 rename_i a b
 refine zaa (T := tt) (S := fun L => zam [ypk L]) (lo := noA) (lb := noA) 5 (fn := Tryz.f80) rfl rfl (by kernel_rfl) (by kernel_rfl) rfl zac (za2 ⟨yk5, trivial⟩) (by kernel_rfl) ?_
 intro L P' Q' hL hP hQ
 (cbv; try simp only [syT, true_and, and_true])
 subst hL; subst hQ
 obtain ⟨h1, h2⟩ : tdOk a b := hp
 refine ⟨h1, h2, ?_⟩
 rw [zh6]; exact ⟨rfl, rfl⟩
def yw7 (a b : Nat) : Prop := a = fOf 3 /\ b = fOf 4
theorem s34 : yf9 (fOf 3) (fOf 4) := ⟨⟨3, by decide, rfl⟩, ⟨4, by decide, rfl⟩⟩
def yn5 (L : zab) : zbb := (63, fun xs => match xs with
 | [.cpx .f64 a b, .int .i64 1] => some (L2 L yw7 a b, .cpx .f64 13839561654909534208 4613937818241073152)
 | _ => none)
theorem yhi : zay Tryz.prog (yn5 std) := by
 intro xs p r h hp
 dsimp only [yn5] at h |-
 split at h <;> cases h
 try simp only [L2, L3, std] at hp |-
 rename_i a b
 refine zaa (T := tt) (S := fun L => zam [yd6 L, yn9 L]) (lo := noA) (lb := noA) 5 (fn := Tryz.f63) rfl rfl (by kernel_rfl) (by kernel_rfl) rfl zac (za2 ⟨zp1, yhl, trivial⟩) (by kernel_rfl) ?_
 intro L P' Q' hL hP hQ
 (cbv; try simp only [syT, true_and, and_true])
 subst hL; subst hQ
 obtain ⟨rfl, rfl⟩ : yw7 a b := hp
 refine ⟨s34, fun h => (by cases h), fun _ => ⟨fun _ => ⟨fun h => absurd h (by decide +kernel), fun _ => ⟨⟨⟨by decide +kernel, by decide +kernel, by decide +kernel⟩, by decide +kernel, by decide +kernel, by decide +kernel⟩, ?_⟩⟩, fun h => absurd h (by decide +kernel)⟩⟩
 rw [zh6]
 exact ⟨by decide +kernel, by decide +kernel⟩
def yoo (L : zab) : zbb := (64, fun xs => match xs with
 | [.cpx .f64 a b] => some (L2 L yw7 a b, .flt .f64 4627730092099895296)
 | _ => none)
theorem yiz : zay Tryz.prog (yoo std) := by
 intro xs p r h hp
 dsimp only [yoo] at h |-
 split at h <;> cases h
 try simp only [L2, L3, std] at hp |-
 rename_i a b
 refine zaa (T := tt) (S := fun L => zam [yd6 L]) (lo := noA) (lb := noA) 5 (fn := Tryz.f64) rfl rfl (by kernel_rfl) (by kernel_rfl) rfl zac (za2 ⟨zp1, trivial⟩) (by kernel_rfl) ?_
 intro L P' Q' hL hP hQ
 (cbv; try simp only [syT, true_and, and_true])
 subst hL; subst hQ
 obtain ⟨rfl, rfl⟩ : yw7 a b := hp
 refine ⟨s34, fun h => (by cases h), fun _ => ⟨by decide +kernel, by decide +kernel, by decide +kernel, ?_⟩⟩
 rw [zit]
 decide +kernel
theorem ya6 : zad Tryz.prog 44 [] (.bool true) := by
 refine zaa (T := tt) (S := fun L => zam [yip L, yn5 L, yoo L]) (lo := noA) (lb := noA) 5 (fn := Tryz.f44) rfl rfl (by kernel_rfl) (by kernel_rfl) rfl zac (za2 ⟨zvo, yhi, yiz, trivial⟩) (by kernel_rfl) ?_
 intro L P' Q' hL hP hQ
 (cbv; try simp only [syT, true_and, and_true])
 subst hL; subst hQ
 refine ⟨⟨by decide, by decide, by decide, by decide⟩, fun _ => ⟨⟨rfl, rfl⟩, fun _ => ⟨⟨rfl, rfl⟩, ?_⟩, fun h => absurd h (by decide +kernel)⟩, fun h => absurd h (by decide +kernel)⟩
 rw [zah]
 decide +kernel
theorem zuy : zad Tryz.prog 23 [] (.bool true) := by
 refine zaa (T := tt) (S := fun L => zam [tru 44]) (lo := noA) (lb := noA) 5 (fn := Tryz.f23) rfl rfl (by kernel_rfl) (by kernel_rfl) rfl zac (za2 ⟨zbz ya6, trivial⟩) (by kernel_rfl) ?_
 intro L P' Q' hL hP hQ
 (cbv; try simp only [syT, true_and, and_true])
 subst hL; subst hQ
 rw [zah]
abbrev Lbx := List UInt8
def sxC (L : zab) (x : List UInt8) (j : Nat) : AV := .str x
def sxV : Vw Lbx := ⟨1, sxC, fun c => zvi (c 0), fun c => ∃ s, c 0 = .str s, []⟩
theorem zl1 : zso sxV := by
 refine ⟨fun c hc j hj h D μ v r => ?_, fun c x hx => ?_⟩
 · obtain ⟨s, hs⟩ := hc
   have hj : j < 1 := hj
   obtain rfl : j = 0 := by omega
   show R h D μ (.str (zvi (c 0))) v
   rw [hs] at r |-
   exact r
 · have h0 : c 0 = .str x := hx 0 (by decide)
   refine ⟨⟨x, h0⟩, ?_⟩
   show zvi (c 0) = x
   rw [h0]; rfl
def zaj (l : List Lbx) (i : Nat) : Lbx := zi0 sxV l i
def ym7 (L : zab) (l : List Lbx) : AV := .lst 1 (L zbl l) (fun i => sxC L (L (L zaj l) i))
def zih (x : AV) : Prop := okW sxV x
def zd7 (x : AV) : List Lbx := rdW sxV x
def noB (x : List UInt8) : Bool := seq x []
def yw0 (L : zab) : zbb := (58, fun xs => match xs with | [.str s] => some (True, .bool (L noB s)) | _ => none)
theorem yd7 : zay Tryz.prog (yw0 std) := by
 intro xs p r h hp
 dsimp only [yw0] at h |-
 split at h <;> cases h
 try simp only [L2, L3, std] at hp |-
 rename_i s
 refine zaa (T := tt) (S := noS) (lo := noA) (lb := noA) 5 (fn := Tryz.f58) rfl rfl (by kernel_rfl) (by kernel_rfl) rfl zac (zc2 _) (by kernel_rfl) ?_
 intro L P' Q' hL hP hQ
 (cbv; try simp only [syT, true_and, and_true])
 subst hL; subst hQ
 rw [zah]; rfl
def ymb (l : List Lbx) : Int := zh5 noB l
def ytj (l : List Lbx) (i : Nat) : Prop := zmv noB l i
def toNS (l : List Lbx) (i : Nat) : Nat := l.length - i
def yls (L : zab) (n : Nat) (l : List Lbx) : Nat × Ob := (500000, .row 9 1 n (fun i => sxC L (L (L zaj l) i)))
def yi9 (n : Nat) : List AV := [.sl 500000 1 0 n, .fn 58 [] []]
def ypc (L : zab) : zog := (71, fun raw ob => match raw with
 | [.sl a 1 0 n, .fn g [] []] => match zat g 58, ob a with
   | true, some (.row _ _ m get) => some ⟨[.sl 500000 1 0 n, .fn 58 [] []], [(500000, .row 9 1 n get)], L zih (.lst 1 n get) /\ L upN n, .int .i64 (L ymb (L zd7 (.lst 1 n get))), [(500000, .row 9 1 n (fun i => sxC L (L (L zaj (L zd7 (.lst 1 n get))) i)))]⟩
   | _, _ => none
 | _ => none)
def ixsA (L : zab) (l : List Lbx) : Nat -> St -> Option Ann := fun id st => match id with
 | 0 => some ⟨Nat, fun i => [(8, .int .i64 (L za7 i))], fun i => [], [0, 1, 7], [500000], fun i => L2 L ytj l i, fun i => L2 L toNS l i⟩
 | _ => none
theorem ypb {l : List Lbx} {n : Nat} (hz : n <= 1000000) (hlw : n = l.length) : zbj Tryz.prog 71 (yi9 n) [yls std n l] (.int .i64 (ymb l)) [yls std n l] := by
 refine zbc (T := tt) (S := fun L => zca [yw0 L] []) (lo := fun L => ixsA L l) (lb := noA) 5 (fn := Tryz.f71) (xs := fun L => yi9 n) (rts := fun L => [.int .i64 (L ymb l)]) (O := fun L => [yls L n l]) (O1 := fun L => [yls L n l]) rfl rfl (by kernel_rfl) (by kernel_rfl) (by kernel_rfl) zac (zaw ⟨yd7, trivial⟩ trivial) (by kernel_rfl) ?_
 intro L P' Q' hL hP hQ
 (cbv; try simp only [syT, true_and, and_true])
 refine ⟨⟨0, ?_⟩, fun i hi => ?_⟩
 · (cbv; try simp only [syT, true_and, and_true])
   (subst hL; subst hQ; simp only [L2, L3, std] at *; try simp only [syS, reduceCtorEq, Int.reduceToNat, Int.reduceAdd, Int.reduceSub] at *)
   exact zlr _ _
 · have hi2 : ytj l i := by
     have h := hi
     rw [hL] at h
     exact h
   clear hi
   (cbv; try simp only [syT, true_and, and_true])
   refine ⟨fun hlt => ⟨?_, fun hb => ?_, fun hb => ⟨i + 1, ?_⟩⟩, fun hge => ?_⟩
   · (subst hL; subst hQ; simp only [L2, L3, std] at *; try simp only [syS, reduceCtorEq, Int.reduceToNat, Int.reduceAdd, Int.reduceSub] at *)
     omega
   · (subst hL; subst hQ; simp only [L2, L3, std] at *; try simp only [syS, reduceCtorEq, Int.reduceToNat, Int.reduceAdd, Int.reduceSub] at *)
     exact (zgg (V := sxV) hi2 (by omega) hb).symm
   · (cbv; try simp only [syT, true_and, and_true])
     (subst hL; subst hQ; simp only [L2, L3, std] at *; try simp only [syS, reduceCtorEq, Int.reduceToNat, Int.reduceAdd, Int.reduceSub] at *)
     exact ⟨by omega, zf6 (V := sxV) hi2 (by omega) hb, by show l.length - (i + 1) + 1 <= l.length - i; omega⟩
   · (subst hL; subst hQ; simp only [L2, L3, std] at *; try simp only [syS, reduceCtorEq, Int.reduceToNat, Int.reduceAdd, Int.reduceSub] at *)
     exact (zgh hi2 (by omega)).symm
theorem zzg : zg9 Tryz.prog (ypc std) := by
 intro raw ob T h hp
 unfold ypc at h
 simp only at h
 split at h
 rotate_left
 · cases h
 rename_i a n g
 split at h
 rotate_left
 · cases h
 rename_i t m get hg _
 obtain rfl : g = 58 := of_decide_eq_true hg
 cases h
 obtain ⟨ho, hn⟩ := hp
 have ho : zih (.lst 1 n get) := ho
 have hn : n <= 1000000 := hn
 have hl : (zd7 (.lst 1 n get)).length = n := zli _ _ _ _
 refine ym3 zl1 ho ?_
 exact ypb (l := zd7 (.lst 1 n get)) hn hl.symm
theorem zlp {l : List Lbx} {i : Nat} (h : i < l.length) : zaj l i = l[i] := zas h
def ziy (l : List Lbx) : List Lbx := l.filter fun x => !noB x
def zew (l : List Lbx) (i : Nat) : List Lbx := ziy (l.take i)
def kE (l : List Lbx) (i : Nat) : Nat := (zew l i).length
def dE (l : List Lbx) (i : Nat) : List Lbx := zew l i ++ l.drop (kE l i)
def nE (l : List Lbx) : Nat := (ziy l).length
def yha (l : List Lbx) : List Lbx := ziy l ++ List.replicate (l.length - nE l) []
def dOkE (l : List Lbx) (i : Nat) : Prop := i <= l.length
theorem zbr (l : List Lbx) (q : Nat) : zaj l q = (l[q]?).getD ([] : Lbx) := by
 show l.getD q ([] : Lbx) = _
 rw [List.getD_eq_getElem?_getD]
theorem zo6 {l : List Lbx} (h : ∀ x ∈ l, noB x = false) : ziy l = l := by
 unfold ziy
 rw [List.filter_eq_self]
 intro x hx
 rw [h x hx]; rfl
theorem zwt {α : Type} (p : α -> Bool) : ∀ l : List α, 0 <= zh5 p l -> ∃ (j : Nat) (hj : j < l.length), zh5 p l = j /\ p l[j] = true /\ ∀ x ∈ l.take j, p x = false
 | [], h => by simp [zh5] at h
 | x :: l, h => by
   by_cases hx : p x = true
   · exact ⟨0, by simp, by simp [zh5, hx], hx, by simp⟩
   · have hx' : p x = false := by simpa using hx
     have hge := zu0 p l
     have h0 : 0 <= zh5 p l := by
       rw [zh5, if_neg hx] at h
       split at h <;> omega
     obtain ⟨j, hj, e1, e2, e3⟩ := zwt p l h0
     refine ⟨j + 1, by simpa using hj, ?_, by simpa using e2, ?_⟩
     · rw [zh5, if_neg hx, if_neg (by omega), e1]; rfl
     · intro y hy
       rw [List.take_succ_cons, List.mem_cons] at hy
       rcases hy with rfl | hy
       · exact hx'
       · exact e3 y hy
theorem yeo {l : List Lbx} (h : ymb l = -1) : ziy l = l := by
 have h1 := zh4 (noB) l
 have h2 : l.any (noB) = false := by
   rw [<- h1, decide_eq_false]
   have h : zh5 (noB) l = -1 := h
   omega
 refine zo6 fun x hx => ?_
 rw [List.any_eq_false] at h2
 simpa using h2 x hx
theorem zjs {l : List Lbx} {i : Nat} (hi : i < l.length) : zew l (i + 1) = if noB (zaj l i) = true then zew l i else zew l i ++ [zaj l i] := by
 unfold zew ziy
 rw [List.take_succ_eq_append_getElem hi, List.filter_append, zlp hi]
 cases h : noB l[i] with
 | true => rw [if_pos rfl]; simp [h]
 | false => rw [if_neg (by decide)]; simp [h]
theorem yen {l : List Lbx} (h : ¬ ymb l = -1) : ∃ j : Nat, ymb l = j /\ j < l.length /\ zew l (j + 1) = l.take j := by
 have h0 := (zu0 (noB) l).1
 obtain ⟨j, hj, e1, e2, e3⟩ := zwt (noB) l (by have h : ¬ zh5 (noB) l = -1 := h; omega)
 refine ⟨j, e1, hj, ?_⟩
 rw [zjs hj, zlp hj, if_pos e2]
 exact zo6 e3
theorem yma {l : List Lbx} (i : Nat) : kE l i <= i := by
 have h1 : kE l i <= (l.take i).length := List.length_filter_le _ _
 rw [List.length_take] at h1
 omega
theorem zq0 {l : List Lbx} (i q : Nat) : zaj (dE l i) q = if q < kE l i then zaj (zew l i) q else zaj l q := by
 rw [zbr, zbr, zbr, dE]
 split
 · rename_i h
   rw [List.getElem?_append_left h]
 · rename_i h
   have h : (zew l i).length <= q := by
     have : ¬ q < (zew l i).length := h
     omega
   rw [List.getElem?_append_right h, List.getElem?_drop]
   unfold kE
   rw [show (zew l i).length + (q - (zew l i).length) = q by omega]
theorem yfn {l : List Lbx} (i : Nat) : zaj (dE l i) i = zaj l i := by
 have := yma (l := l) i
 rw [zq0, if_neg (by omega)]
theorem yfl {l : List Lbx} {j : Nat} (hj : j < l.length) (h : zew l (j + 1) = l.take j) : kE l (j + 1) = j /\ dE l (j + 1) = l := by
 have hk : kE l (j + 1) = j := by
   rw [kE, h, List.length_take]; omega
 refine ⟨hk, ?_⟩
 rw [dE, h, hk, List.take_append_drop]
theorem yks {l : List Lbx} {i : Nat} (hi : i < l.length) (h : noB (zaj l i) = true) : kE l (i + 1) = kE l i /\ dE l (i + 1) = dE l i := by
 have e : zew l (i + 1) = zew l i := by rw [zjs hi, if_pos h]
 have e2 : kE l (i + 1) = kE l i := by rw [kE, e]; rfl
 exact ⟨e2, by rw [dE, e, e2]; rfl⟩
theorem ykt {l : List Lbx} {i : Nat} (hi : i < l.length) (h : noB (zaj l i) = false) : kE l (i + 1) = kE l i + 1 /\ ∀ q, zaj (dE l (i + 1)) q = if q = kE l i then zaj l i else zaj (dE l i) q := by
 have e : zew l (i + 1) = zew l i ++ [zaj l i] := by rw [zjs hi, if_neg (by rw [h]; decide)]
 have e2 : kE l (i + 1) = kE l i + 1 := by rw [kE, e, List.length_append]; rfl
 refine ⟨e2, fun q => ?_⟩
 rw [zq0, zq0, e2, e, zbr (zew l i ++ [zaj l i])]
 by_cases h1 : q < kE l i
 · rw [if_pos (by omega), if_neg (by omega), if_pos h1, List.getElem?_append_left h1, zbr]
 · by_cases h2 : q = kE l i
   · rw [if_pos (by omega), if_pos h2, List.getElem?_append_right (by unfold kE at h2; omega), show q - (zew l i).length = 0 by unfold kE at h2; omega]
     rfl
   · rw [if_neg (by omega), if_neg h2, if_neg h1]
theorem yfm {l : List Lbx} {i : Nat} (hi : i = l.length) : kE l i = nE l /\ ∀ q, zaj (yha l) q = if q < nE l then zaj (dE l i) q else ([] : Lbx) := by
 subst hi
 have e : zew l l.length = ziy l := by rw [zew, List.take_length]
 have e2 : kE l l.length = nE l := by rw [kE, e]; rfl
 refine ⟨e2, fun q => ?_⟩
 rw [zq0, e2, e, zbr, yha]
 split
 · rename_i h
   rw [List.getElem?_append_left h, zbr]
 · rename_i h
   have h' : (ziy l).length <= q := by
     have : ¬ q < (ziy l).length := h
     omega
   rw [List.getElem?_append_right h', List.getElem?_replicate]
   split <;> rfl
theorem yfx {l : List Lbx} (h : ymb l = -1) : yha l = l /\ nE l = l.length := by
 have e := yeo h
 have e2 : nE l = l.length := by rw [nE, e]
 refine ⟨?_, e2⟩
 rw [yha, e2, e, Nat.sub_self]
 simp
def yqh (L : zab) : zog := (56, fun raw ob => match raw with
 | [.sl a 1 0 n, .fn g [] []] => match zat g 58, ob a with
   | true, some (.row _ _ m get) => some ⟨[.sl 500000 1 0 n, .fn 58 [] []], [(500000, .row 9 1 n get)], L zih (.lst 1 n get) /\ L upN n, .sl 500000 1 0 (L nE (L zd7 (.lst 1 n get))), [(500000, .row 9 1 n (fun i => sxC L (L (L zaj (L yha (L zd7 (.lst 1 n get)))) i)))]⟩
   | _, _ => none
 | _ => none)
def delSA (L : zab) (l : List Lbx) (n : Nat) : Nat -> St -> Option Ann := fun id st => match id with
 | 0 => some ⟨Nat, fun i => [(6, .int .i64 (L za7 i)), (5, .int .i64 (L za7 (L (L kE l) i)))], fun i => [(500000, .row 9 1 n (fun q => sxC L (L (L zaj (L (L dE l) i)) q)))], [0, 1], [], fun i => L (L dOkE l) i, fun i => L2 L toNS l i⟩
 | _ => none
theorem yhc {z : Int} {j : Nat} (h : z = (j : Int)) (hj : j <= 1000000) : (z + 1 + 9223372036854775808) % 18446744073709551616 - 9223372036854775808 = ((j + 1 : Nat) : Int) := by omega
theorem yx8 (q : Nat) (x : Lbx) (f : Nat -> Lbx) (i j : Nat) (h : j < 1) : over std q 0 1 [.str x] (fun i => sxC std (f i)) i j = sxC std (if i = q then x else f i) j := by
 rw [zgz, if_pos (by omega)]
 obtain rfl : j = 0 := by omega
 by_cases e : i = q
 · subst e
   rw [if_pos rfl, za6]; rfl
 · rw [if_neg e, zan e]; rfl
theorem selE (k n : Nat) (x : Lbx) (i j : Nat) (h : j < 1) (hk : k <= n) (hi : i < n) : zqd (zdk k (n - k) i) (zbn AV.dead [.str []] j) (sxC std x j) = sxC std (if i < k then x else []) j := by
 rw [yno]
 obtain rfl : j = 0 := by omega
 by_cases e : i < k
 · rw [if_pos e, if_neg (by rw [ybu]; omega)]
 · rw [if_neg e, if_pos (by rw [ybu]; omega)]; rfl
theorem yqg {l : List Lbx} {n : Nat} (hz : n <= 1000000) (hlw : n = l.length) : zbj Tryz.prog 56 (yi9 n) [yls std n l] (.sl 500000 1 0 (nE l)) [yls std n (yha l)] := by
 refine zbc (T := tt) (S := fun L => zca [yw0 L] [ypc L]) (lo := fun L => delSA L l n) (lb := noA) 5 (fn := Tryz.f56) (xs := fun L => yi9 n) (rts := fun L => [.sl 500000 1 0 (L nE l)]) (O := fun L => [yls L n l]) (O1 := fun L => [yls L n (L yha l)]) rfl rfl (by kernel_rfl) (by kernel_rfl) (by kernel_rfl) zac (zaw ⟨yd7, trivial⟩ ⟨zzg, trivial⟩) (by kernel_rfl) ?_
 intro L P' Q' hL hP hQ
 have hG : ∀ (y : List Lbx), n = zbl y -> L zd7 (.lst 1 n (fun i => sxC L (L (L zaj y) i))) = y := by subst hL; intro y hy; subst hy; exact (zcd zl1 y).2
 have hO : ∀ (y : List Lbx), n = zbl y -> L zih (.lst 1 n (fun i => sxC L (L (L zaj y) i))) := by subst hL; intro y hy; subst hy; exact (zcd zl1 y).1
 (cbv; try simp only [syT, true_and, and_true])
 simp only [hG l hlw, hO l hlw]
 refine ⟨fun _ _ _ _ => trivial, ⟨trivial, ?_⟩, fun h1 => ?_, fun h1 => ?_⟩
 · subst hL; exact hz
 · (subst hL; subst hQ; simp only [L2, L3, std] at *; try simp only [syS, reduceCtorEq, Int.reduceToNat, Int.reduceAdd, Int.reduceSub] at *)
   obtain ⟨k1, k2⟩ := yfx h1
   rw [k1, k2]
   exact ⟨fun _ _ _ _ => rfl, hlw⟩
 · have h1' : ¬ ymb l = -1 := by
     have h := h1
     rw [hL] at h
     simpa [ieq, std] using h
   clear h1
   obtain ⟨j, hj, hjl, hjk⟩ := yen h1'
   obtain ⟨k1, k2⟩ := yfl hjl hjk
   refine ⟨⟨j + 1, ?_⟩, fun i hi => ?_⟩
   · (cbv; try simp only [syT, true_and, and_true])
     (subst hL; subst hQ; simp only [L2, L3, std] at *; try simp only [syS, reduceCtorEq, Int.reduceToNat, Int.reduceAdd, Int.reduceSub] at *)
     rw [k1, k2]
     exact ⟨fun _ _ _ _ => rfl, hj, yhc hj (by omega), by show j + 1 <= _; omega⟩
   · have hi2 : i <= l.length := by
       have h := hi
       rw [hL] at h
       exact h
     clear hi
     have hkn := yma (l := l) i
     (cbv; try simp only [syT, true_and, and_true])
     refine ⟨fun hlt => ⟨?_, fun hb => ⟨?_, ⟨i + 1, ?_⟩⟩, fun hb => ⟨i + 1, ?_⟩⟩, fun hge => ⟨?_, ?_, ?_, ?_⟩⟩
     · (subst hL; subst hQ; simp only [L2, L3, std] at *; try simp only [syS, reduceCtorEq, Int.reduceToNat, Int.reduceAdd, Int.reduceSub] at *)
       omega
     · (subst hL; subst hQ; simp only [L2, L3, std] at *; try simp only [syS, reduceCtorEq, Int.reduceToNat, Int.reduceAdd, Int.reduceSub] at *)
       omega
     · (cbv; try simp only [syT, true_and, and_true])
       (subst hL; subst hQ; simp only [L2, L3, std] at *; try simp only [syS, reduceCtorEq, Int.reduceToNat, Int.reduceAdd, Int.reduceSub] at *)
       have hl : i < l.length := by omega
       have hb2 : noB (zaj l i) = false := by rw [<- yfn]; exact hb
       obtain ⟨m1, m2⟩ := ykt hl hb2
       refine ⟨fun q j hq hj => ?_, ?_, yhc rfl (by omega), by show i + 1 <= _; omega, by show l.length - (i + 1) + 1 <= l.length - i; omega⟩
       · rw [yx8 _ _ _ _ _ hj, m2, yfn]
       · rw [m1]
         exact yhc rfl (by omega)
     · (cbv; try simp only [syT, true_and, and_true])
       (subst hL; subst hQ; simp only [L2, L3, std] at *; try simp only [syS, reduceCtorEq, Int.reduceToNat, Int.reduceAdd, Int.reduceSub] at *)
       have hl : i < l.length := by omega
       have hb2 : noB (zaj l i) = true := by rw [<- yfn]; exact hb
       obtain ⟨m1, m2⟩ := yks hl hb2
       rw [m1, m2]
       exact ⟨fun _ _ _ _ => rfl, rfl, yhc rfl (by omega), by show i + 1 <= _; omega, by show l.length - (i + 1) + 1 <= l.length - i; omega⟩
     · (subst hL; subst hQ; simp only [L2, L3, std] at *; try simp only [syS, reduceCtorEq, Int.reduceToNat, Int.reduceAdd, Int.reduceSub] at *)
       omega
     · (subst hL; subst hQ; simp only [L2, L3, std] at *; try simp only [syS, reduceCtorEq, Int.reduceToNat, Int.reduceAdd, Int.reduceSub] at *)
       omega
     · (subst hL; subst hQ; simp only [L2, L3, std] at *; try simp only [syS, reduceCtorEq, Int.reduceToNat, Int.reduceAdd, Int.reduceSub] at *)
       obtain ⟨m1, m2⟩ := yfm (l := l) (i := i) (by omega)
       intro q j hq hj
       rw [selE _ _ _ _ _ hj (by omega) hq, m2, m1]
     · (subst hL; subst hQ; simp only [L2, L3, std] at *; try simp only [syS, reduceCtorEq, Int.reduceToNat, Int.reduceAdd, Int.reduceSub] at *)
       exact (yfm (by omega)).1
theorem zzw : zg9 Tryz.prog (yqh std) := by
 intro raw ob T h hp
 unfold yqh at h
 simp only at h
 split at h
 rotate_left
 · cases h
 rename_i a n g
 split at h
 rotate_left
 · cases h
 rename_i t m get hg _
 obtain rfl : g = 58 := of_decide_eq_true hg
 cases h
 obtain ⟨ho, hn⟩ := hp
 have ho : zih (.lst 1 n get) := ho
 have hn : n <= 1000000 := hn
 have hl : (zd7 (.lst 1 n get)).length = n := zli _ _ _ _
 refine ym3 zl1 ho ?_
 exact yqg (l := zd7 (.lst 1 n get)) hn hl.symm
def zxu (s sep : List UInt8) : Nat := cntB s sep + 1
def yy2 (a b : Int) : Prop := a = 0 /\ b = -1
def yy3 (L : zab) : zog := (72, fun raw ob => match raw with
 | [.str s, .str sep, .int .i64 a, .int .i64 b] => some ⟨[.str s, .str sep, .int .i64 a, .int .i64 b], [], L zp4 sep /\ L2 L upto 900000 s /\ L2 L yy2 a b, .sl 900 1 0 (L2 L zxu s sep), [(900, .row 9 1 (L2 L zxu s sep) (fun i => sxC L (L (L zaj (L2 L za9 s sep)) i)))]⟩
 | _ => none)
theorem yew : zg9 Tryz.prog (yy3 std) := by
 intro raw ob T h hp
 unfold yy3 at h
 simp only at h
 split at h
 rotate_left
 · cases h
 rename_i s sep a b
 cases h
 obtain ⟨p1, p2, rfl, rfl⟩ : zp4 sep /\ s.length <= 900000 /\ a = 0 /\ b = -1 := hp
 refine zbc (T := tt) (S := fun L => zca [yjy L, yfv L, nev 96] []) (lo := fun L => splA L s sep) (lb := noA) 5 (fn := Tryz.f72) (xs := fun L => [.str s, .str sep, .int .i64 0, .int .i64 (-1)]) (rts := fun L => [.sl 900 1 0 (L2 L zxu s sep)]) (O := fun L => []) (O1 := fun L => [(900, .row 9 1 (L2 L zxu s sep) (fun i => sxC L (L (L zaj (L2 L za9 s sep)) i)))]) rfl rfl (by kernel_rfl) (by kernel_rfl) (by kernel_rfl) zac (zaw ⟨zws, zq3, zw3 _, trivial⟩ trivial) (by kernel_rfl) ?_
 intro L P' Q' hL hP hQ
 (cbv; try simp only [syT, true_and, and_true])
 have hc : zq4 s sep = (cntB s sep : Int) := rfl
 have hle := zo9 s sep
 have hsep : sep ≠ [] := fun e => by rw [e] at p1; cases p1
 refine ⟨fun h => ?_, fun h1 => ⟨fun h => ?_, fun h2 => ⟨fun h3 => ⟨?_, ?_, ⟨0, ?_⟩, fun i hi => ?_⟩, fun h3 => ?_⟩⟩⟩
 · (subst hL; subst hQ; simp only [L2, L3, std] at *; try simp only [syS, reduceCtorEq, Int.reduceToNat, Int.reduceAdd, Int.reduceSub] at *)
 · (subst hL; subst hQ; simp only [L2, L3, std] at *; try simp only [syS, reduceCtorEq, Int.reduceToNat, Int.reduceAdd, Int.reduceSub] at *)
   exact absurd h hsep
 · (subst hL; subst hQ; simp only [L2, L3, std] at *; try simp only [syS, reduceCtorEq, Int.reduceToNat, Int.reduceAdd, Int.reduceSub] at *)
   exact p1
 · (subst hL; subst hQ; simp only [L2, L3, std] at *; try simp only [syS, reduceCtorEq, Int.reduceToNat, Int.reduceAdd, Int.reduceSub] at *)
   rw [hc]
   omega
 · (cbv; try simp only [syT, true_and, and_true])
   (subst hL; subst hQ; simp only [L2, L3, std] at *; try simp only [syS, reduceCtorEq, Int.reduceToNat, Int.reduceAdd, Int.reduceSub] at *)
   rw [hc, show min (((cntB s sep : Nat) + 1 + 9223372036854775808 : Int) % 18446744073709551616 - 9223372036854775808) (((s.length : Nat) + 1 + 9223372036854775808 : Int) % 18446744073709551616 - 9223372036854775808) = (cntB s sep : Nat) + 1 by omega]
   refine ⟨⟨by omega, fun k j hk hj => ?_⟩, by omega, by omega, rfl, Nat.zero_le _⟩
   rw [zme, if_neg (by omega)]
   match j, hj with
   | 0, _ => rfl
 · cbv at hi
   (cbv; try simp only [syT, true_and, and_true])
   refine ⟨fun h4 => ⟨?_, fun h5 => ?_, fun h5 => ⟨?_, ?_, ?_, i + 1, ?_⟩⟩, fun h4 => ⟨?_, ?_, ?_⟩⟩
   · (subst hL; subst hQ; simp only [L2, L3, std] at *; try simp only [syS, reduceCtorEq, Int.reduceToNat, Int.reduceAdd, Int.reduceSub] at *)
     exact p1
   · (subst hL; subst hQ; simp only [L2, L3, std] at *; try simp only [syS, reduceCtorEq, Int.reduceToNat, Int.reduceAdd, Int.reduceSub] at *)
     obtain ⟨r1, r2, r3⟩ := zgc (c := by1 sep) (s := s) (i := i) (show i < cntB s sep by omega)
     exfalso
     have h5 : Lib.indexByte (zet (by1 sep) s i) (by1 sep) < 0 := h5
     omega
   · (subst hL; subst hQ; simp only [L2, L3, std] at *; try simp only [syS, reduceCtorEq, Int.reduceToNat, Int.reduceAdd, Int.reduceSub] at *)
     obtain ⟨r1, r2, r3⟩ := zgc (c := by1 sep) (s := s) (i := i) (show i < cntB s sep by omega)
     obtain ⟨q1, q2⟩ := zdu (by1 sep) s i hi
     have r1 : 0 <= zg7 (zcc s sep i) sep := r1
     have r2 : (zg7 (zcc s sep i) sep).toNat < (zcc s sep i).length := r2
     have q2 : (zcc s sep i).length <= s.length := q2
     omega
   · (subst hL; subst hQ; simp only [L2, L3, std] at *; try simp only [syS, reduceCtorEq, Int.reduceToNat, Int.reduceAdd, Int.reduceSub] at *)
     omega
   · (subst hL; subst hQ; simp only [L2, L3, std] at *; try simp only [syS, reduceCtorEq, Int.reduceToNat, Int.reduceAdd, Int.reduceSub] at *)
     obtain ⟨r1, r2, r3⟩ := zgc (c := by1 sep) (s := s) (i := i) (show i < cntB s sep by omega)
     obtain ⟨q1, q2⟩ := zdu (by1 sep) s i hi
     have r1 : 0 <= zg7 (zcc s sep i) sep := r1
     have r2 : (zg7 (zcc s sep i) sep).toNat < (zcc s sep i).length := r2
     have q2 : (zcc s sep i).length <= s.length := q2
     have e1 : (sep.length : Int) = 1 := by rw [p1]; rfl
     omega
   · (cbv; try simp only [syT, true_and, and_true])
     (subst hL; subst hQ; simp only [L2, L3, std] at *; try simp only [syS, reduceCtorEq, Int.reduceToNat, Int.reduceAdd, Int.reduceSub] at *)
     obtain ⟨r1, r2, r3⟩ := zgc (c := by1 sep) (s := s) (i := i) (show i < cntB s sep by omega)
     obtain ⟨q1, q2⟩ := zdu (by1 sep) s i hi
     have r1 : 0 <= zg7 (zcc s sep i) sep := r1
     have r2 : (zg7 (zcc s sep i) sep).toNat < (zcc s sep i).length := r2
     have q2 : (zcc s sep i).length <= s.length := q2
     have e1 : (sep.length : Int) = 1 := by rw [p1]; rfl
     refine ⟨fun k j hk hj => ?_, by omega, ?_, by omega, by omega⟩
     · rw [zvr _ _ _ _ _ hj]
       congr 1
       by_cases hki : k = i
       · subst hki
         rw [if_pos rfl, zme, if_pos (by omega), show (zg7 (zcc s sep k) sep + 0 + 9223372036854775808) % 18446744073709551616 - 9223372036854775808 = zg7 (zcc s sep k) sep by omega]
         exact r3.symm
       · rw [if_neg hki, zme, zme]
         by_cases hlt : k < i
         · rw [if_pos hlt, if_pos (by omega)]
         · rw [if_neg hlt, if_neg (by omega)]
     · rw [e1, show ((zg7 (zcc s sep i) sep + 1 + 9223372036854775808) % 18446744073709551616 - 9223372036854775808).toNat = (zg7 (zcc s sep i) sep).toNat + 1 by omega]
       rfl
   · (subst hL; subst hQ; simp only [L2, L3, std] at *; try simp only [syS, reduceCtorEq, Int.reduceToNat, Int.reduceAdd, Int.reduceSub] at *)
     omega
   · (subst hL; subst hQ; simp only [L2, L3, std] at *; try simp only [syS, reduceCtorEq, Int.reduceToNat, Int.reduceAdd, Int.reduceSub] at *)
     omega
   · (subst hL; subst hQ; simp only [L2, L3, std] at *; try simp only [syS, reduceCtorEq, Int.reduceToNat, Int.reduceAdd, Int.reduceSub] at *)
     have hi' : i = cntB s sep := by omega
     subst hi'
     rw [show ((cntB s sep : Nat) + 1 + 9223372036854775808 : Int) % 18446744073709551616 - 9223372036854775808 = ((cntB s sep + 1 : Nat) : Int) by omega, Int.toNat_natCast]
     refine ⟨⟨rfl, fun k j hk hj => ?_⟩, rfl⟩
     rw [zvr _ _ _ _ _ hj]
     show AV.str _ = AV.str (zc1 (za9 s sep) k)
     congr 1
     by_cases hki : k = cntB s sep
     · rw [if_pos hki, hki]; exact (zqw _ _).symm
     · have hk : k < cntB s sep + 1 := hk
       rw [if_neg hki, zme, if_pos (by omega)]
 · (subst hL; subst hQ; simp only [L2, L3, std] at *; try simp only [syS, reduceCtorEq, Int.reduceToNat, Int.reduceAdd, Int.reduceSub] at *)
   exact absurd h3 (by decide)
def ywt (L : zab) : zog := (57, fun raw ob => match raw with
 | [.str s, .str sep] => some ⟨[.str s, .str sep], [], L zp4 sep /\ L2 L upto 900000 s, .sl 900 1 0 (L2 L zxu s sep), [(900, .row 9 1 (L2 L zxu s sep) (fun i => sxC L (L (L zaj (L2 L za9 s sep)) i)))]⟩
 | _ => none)
theorem ybk : zg9 Tryz.prog (ywt std) := by
 intro raw ob T h hp
 unfold ywt at h
 simp only at h
 split at h
 rotate_left
 · cases h
 rename_i s sep
 cases h
 obtain ⟨p1, p2⟩ : zp4 sep /\ s.length <= 900000 := hp
 refine zbc (T := tt) (S := fun L => zca [] [yy3 L]) (lo := noA) (lb := noA) 5 (fn := Tryz.f57) (xs := fun L => [.str s, .str sep]) (rts := fun L => [.sl 900 1 0 (L2 L zxu s sep)]) (O := fun L => []) (O1 := fun L => [(900, .row 9 1 (L2 L zxu s sep) (fun i => sxC L (L (L zaj (L2 L za9 s sep)) i)))]) rfl rfl (by kernel_rfl) (by kernel_rfl) (by kernel_rfl) zac (zaw trivial ⟨yew, trivial⟩) (by kernel_rfl) ?_
 intro L P' Q' hL hP hQ
 (cbv; try simp only [syT, true_and, and_true])
 subst hL
 exact ⟨⟨p1, p2, rfl, rfl⟩, fun _ _ _ _ => trivial⟩
def zb3 : List UInt8 := [47]
def za5 (s : Lbx) : List Lbx := ziy (za9 s zb3)
def yil (L : zab) : zbb := (33, fun xs => match xs with
 | [.str s] => some (L2 L upto 900000 s, .lst 1 (L zbl (L za5 s)) (fun i => sxC L (L (L zaj (L za5 s)) i)))
 | _ => none)
theorem zvl : zay Tryz.prog (yil std) := by
 intro xs p r h hp
 dsimp only [yil] at h |-
 split at h <;> cases h
 try simp only [L2, L3, std] at hp |-
 rename_i s
 have hs : s.length <= 900000 := hp
 refine zaa (T := tt) (S := fun L => zca [] [ywt L, yqh L]) (lo := noA) (lb := noA) 5 (fn := Tryz.f33) rfl rfl (by kernel_rfl) (by kernel_rfl) rfl zac (zaw trivial ⟨ybk, zzw, trivial⟩) (by kernel_rfl) ?_
 intro L P' Q' hL hP hQ
 (cbv; try simp only [syT, true_and, and_true])
 subst hL; subst hQ
 have hl : zxu s [47] = zbl (za9 s [47]) := (zap (by1 [47]) s).symm
 obtain ⟨r1, r2⟩ := zcd zl1 (za9 s [47])
 have r1 : zih (.lst 1 (zxu s [47]) fun i => sxC std (zaj (za9 s [47]) i)) := by rw [hl]; exact r1
 have r2 : zd7 (.lst 1 (zxu s [47]) fun i => sxC std (zaj (za9 s [47]) i)) = za9 s [47] := by rw [hl]; exact r2
 have hc := zo9 s [47]
 refine ⟨⟨rfl, hs⟩, fun _ _ _ _ => trivial, ⟨r1, ?_⟩, ?_⟩
 · show cntB s [47] + 1 <= 1000000
   omega
 · show zg4 (.lst 1 (zbl (za5 s)) fun i => sxC std (zaj (za5 s) i)) (.lst 1 (nE (zd7 (.lst 1 (zxu s [47]) fun i => sxC std (zaj (za9 s [47]) i)))) fun i => sxC std (zaj (yha (zd7 (.lst 1 (zxu s [47]) fun i => sxC std (zaj (za9 s [47]) i)))) (Nat.add 0 i)))
   rw [r2, zeq]
   refine ⟨rfl, fun i j hi hj => ?_⟩
   have hi : i < (ziy (za9 s [47])).length := hi
   show AV.str (zaj (yha (za9 s [47])) (Nat.add 0 i)) = AV.str (zaj (za5 s) i)
   rw [show Nat.add 0 i = i from Nat.zero_add i, zbr, zbr, yha, List.getElem?_append_left hi]
   rfl
theorem zgx {c : UInt8} : ∀ {u : List UInt8} {v : List UInt8}, (∀ x ∈ u, x ≠ c) -> zaf c (u ++ c :: v) = u :: zaf c v
 | [], v, _ => by simp [zaf]
 | x :: u, v, h => by
   have ih := zgx (u := u) (v := v) (fun y hy => h y (by simp [hy]))
   rw [List.cons_append, zaf, if_neg (h x (by simp)), ih]
theorem zxt {c : UInt8} {u : List UInt8} (h : ∀ x ∈ u, x ≠ c) : zaf c u = [u] := zf0 fun k hk => h c (List.mem_of_getElem? hk) rfl
theorem yu5 {s : List UInt8} {c : UInt8} {m : Nat} (h0 : ∀ k, k < m -> s[k]? ≠ some c) (h : s[m]? = some c) : Lib.indexByte s c = m := by
 by_cases hn : Lib.indexByte s c < 0
 · exact absurd h (yep hn m)
 · obtain ⟨h1, h2, h3⟩ := zrj hn
   rcases Nat.lt_trichotomy (Lib.indexByte s c).toNat m with hlt | heq | hgt
   · exact absurd h1 (h0 _ hlt)
   · omega
   · exact absurd h (h2 _ hgt)
theorem ypa {u v : List UInt8} {c : UInt8} (h : ∀ x ∈ u, x ≠ c) : Lib.indexByte (u ++ c :: v) c = u.length := by
 refine yu5 (fun k hk => ?_) (by simp)
 rw [List.getElem?_append_left hk]
 intro e
 exact h c (List.mem_of_getElem? e) rfl
theorem yql {u v : List UInt8} (h : ∀ x ∈ u, x ≠ 58) : ykx (u ++ 58 :: v) [58] = u /\ yfr (u ++ 58 :: v) [58] = v /\ yv6 (u ++ 58 :: v) [58] = true := by
 have e : zg7 (u ++ 58 :: v) [58] = u.length := ypa h
 rw [ykx, yfr, yv6, e, if_neg (by omega), if_neg (by omega)]
 refine ⟨by simp, by simp, by simp⟩
theorem yu1 {u : List UInt8} (h : u.all isD = true) (c : UInt8) (hc : isD c = false) : ∀ x ∈ u, x ≠ c := by
 intro x hx e
 subst e
 rw [List.all_eq_true.1 h x hx] at hc
 cases hc
theorem zka {n : Int} (c : UInt8) (hc : isD c = false) : ∀ x ∈ zd5 n, x ≠ c := yu1 (ymo n.toNat).1 c hc
def zro (x : Pl) : List UInt8 := zd5 x.a ++ 46 :: (zd5 x.b ++ 46 :: (zd5 x.c ++ 46 :: zd5 x.d))
theorem yn8 (x : Pl) : plT x = zro x ++ 58 :: zd5 x.p := by simp [plT, zro]
theorem ypj (x : Pl) : ∀ y ∈ zro x, y ≠ 58 := by
 have hd : isD 58 = false := by decide
 intro y hy
 simp only [zro, List.mem_append, List.mem_cons] at hy
 rcases hy with h | rfl | h | rfl | h | rfl | h
 · exact zka 58 hd y h
 · decide
 · exact zka 58 hd y h
 · decide
 · exact zka 58 hd y h
 · decide
 · exact zka 58 hd y h
theorem zzo (x : Pl) : za9 (zro x) [46] = [zd5 x.a, zd5 x.b, zd5 x.c, zd5 x.d] := by
 have hd : isD 46 = false := by decide
 show zaf 46 (zro x) = _
 rw [zro, zgx (zka 46 hd), zgx (zka 46 hd), zgx (zka 46 hd), zxt (zka 46 hd)]
theorem yhh {n : Int} (h : 0 <= n /\ n <= 255) : zl0 n := ⟨h.1, by omega⟩
theorem ynh {x : Pl} (h : yaj x) : (1 <= x.p -> spE (plT x) = 0 /\ spP (plT x) = x) /\ (x.p = 0 -> spE (plT x) = 4) := by
 obtain ⟨c1, c2, c3⟩ := yql (u := zro x) (v := zd5 x.p) (ypj x)
 rw [<- yn8] at c1 c2 c3
 obtain ⟨ha, hb, hc, hd, hp⟩ := h
 have hh : zpm (plT x) = [zd5 x.a, zd5 x.b, zd5 x.c, zd5 x.d] := by rw [zpm, c1, zzo]
 have na := zf5 (yhh ha)
 have nb := zf5 (yhh hb)
 have nc := zf5 (yhh hc)
 have nd := zf5 (yhh hd)
 have np := zf5 (n := x.p) ⟨hp.1, by omega⟩
 have hport : zte (plT x) = zd5 x.p := c2
 have v0 : zmt (plT x) 0 = x.a := by rw [zmt, hh]; exact na.2
 have v1 : zmt (plT x) 1 = x.b := by rw [zmt, hh]; exact nb.2
 have v2 : zmt (plT x) 2 = x.c := by rw [zmt, hh]; exact nc.2
 have v3 : zmt (plT x) 3 = x.d := by rw [zmt, hh]; exact nd.2
 have e0 : yh1 (plT x) 0 = 0 := by rw [yh1, hh]; exact na.1
 have e1 : yh1 (plT x) 1 = 0 := by rw [yh1, hh]; exact nb.1
 have e2 : yh1 (plT x) 2 = 0 := by rw [yh1, hh]; exact nc.1
 have e3 : yh1 (plT x) 3 = 0 := by rw [yh1, hh]; exact nd.1
 refine ⟨fun h1 => ?_, fun h0 => if_neg fun hk => ?_⟩
 · have hok : yvu (plT x) := by
     refine ⟨c3, by rw [hh]; rfl, fun k hk => ?_, by rw [hport]; exact np.1, by rw [hport, np.2]; exact h1, by rw [hport, np.2]; exact hp.2⟩
     match k, hk with
     | 0, _ => exact ⟨e0, by rw [v0]; exact ha.2⟩
     | 1, _ => exact ⟨e1, by rw [v1]; exact hb.2⟩
     | 2, _ => exact ⟨e2, by rw [v2]; exact hc.2⟩
     | 3, _ => exact ⟨e3, by rw [v3]; exact hd.2⟩
   have hE : spE (plT x) = 0 := if_pos hok
   refine ⟨hE, ?_⟩
   rw [spP, if_pos hE, v0, v1, v2, v3, hport, np.2]
 · have := hk.2.2.2.2.1
   rw [hport, np.2, h0] at this
   omega
end Sy
end Go.Proofs.YtogpolfhcbgcbaaGreatDoor
