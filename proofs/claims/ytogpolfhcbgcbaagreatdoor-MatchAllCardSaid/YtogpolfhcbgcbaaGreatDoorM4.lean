/-Small facts on worlds, strings as lists of bytes, rows of bytes: used by every walk of this seat; no statement of the seat is proved here; and what stands between these and the texts behind.-/
import Derived.Test.YtogpolfhcbgcbaaGreatDoorRows
import Derived.WalkKit
import Derived.WalkSpells
import Derived.WalkLawsBesides
import Derived.Deep.DeepCutAuto
import Derived.Deep.OwnRows
import Derived.Laws.IdiomStrings
import Derived.Lib.Hide
import Derived.Below
import Derived.ChangeSame
import Derived.ScopeJumps
import Derived.ProofKit
import Derived.OpenShut
import Derived.Carry
import Derived.Lib.SmallJoins
import Derived.RegionTactic
import Derived.BigRegion
import Derived.Test.YtogpolfhcbgcbaaGreatDoorM3
import Derived.Test.YtogpolfhcbgcbaaGreatDoorShelf
import Derived.Shelf.Strconv.Itoa3
import Derived.Lib.AppendIntMem
import Derived.Lib.Walk
import Derived.BigCall
import Derived.BigGuard
import Derived.Lib.AtoiErrMem
import Derived.Lib.ParseIntBCases
import Derived.ChangeArms
import Derived.ChangeSlices
import Derived.WideShapes
import Derived.Lib.Builder
import Derived.Lib.Overlaps
import Derived.Laws.FloatArith
namespace Go.Proofs.YtogpolfhcbgcbaaGreatDoor
open Go.RowKit Go.WideShapes Go.ChangeShapes Go.ChangeAt
def zm3 (b : UInt8) : Value := .int .u8 (b.toNat : Int)
def str (l : List UInt8) : Value := .string ⟨l.toArray⟩
theorem zhd (n : Nat) : zm3 (UInt8.ofNat n) = .int .u8 ((n : Int) % 256) := by
 have h : (((UInt8.ofNat n).toNat : Nat) : Int) = (n : Int) % 256 := by
   rw [UInt8.toNat_ofNat']; omega
 unfold zm3; rw [h]
@[go_sem] theorem ba_get (l : List UInt8) (k : Nat) (h : k < (⟨l.toArray⟩ : ByteArray).size) : (⟨l.toArray⟩ : ByteArray)[k] = l[k]'h := rfl
@[go_sem] theorem ba_append (a b : List UInt8) : (⟨a.toArray⟩ : ByteArray) ++ ⟨b.toArray⟩ = ⟨(a ++ b).toArray⟩ := by
 apply ByteArray.ext; simp
theorem zii (l : List UInt8) (a b : Nat) : (⟨l.toArray⟩ : ByteArray).extract a b = ⟨((l.drop a).take (b - a)).toArray⟩ := by
 apply ByteArray.ext; simp [ByteArray.data_extract]
@[go_sem] theorem ba_extract_all (l : List UInt8) (a : Nat) : (⟨l.toArray⟩ : ByteArray).extract a l.length = ⟨(l.drop a).toArray⟩ := by
 rw [zii, List.take_of_length_le (by simp)]
@[go_sem] theorem ba_extract_zero (l : List UInt8) (b : Nat) : (⟨l.toArray⟩ : ByteArray).extract 0 b = ⟨(l.take b).toArray⟩ := by
 rw [zii, List.drop_zero, Nat.sub_zero]
@[go_sem] theorem wrap_byte_u64 (b : UInt8) : IntKind.u64.wrap (b.toNat : Int) = b.toNat := by
 have := b.toNat_lt; rw [IntKind.wrap_u64]; omega
@[go_sem] theorem wrap_byte_u32 (b : UInt8) : IntKind.u32.wrap (b.toNat : Int) = b.toNat := by
 have := b.toNat_lt; rw [IntKind.wrap_u32]; omega
@[go_sem] theorem wrap_byte_u16 (b : UInt8) : IntKind.u16.wrap (b.toNat : Int) = b.toNat := by
 have := b.toNat_lt; rw [IntKind.wrap_u16]; omega
@[go_sem] theorem wrap_byte_u8 (b : UInt8) : IntKind.u8.wrap (b.toNat : Int) = b.toNat := by
 have := b.toNat_lt; rw [IntKind.wrap_u8]; omega
@[go_sem] theorem wrap_byte_i64 (b : UInt8) : IntKind.i64.wrap (b.toNat : Int) = b.toNat := by
 have := b.toNat_lt; rw [IntKind.wrap_i64]; omega
theorem zij (g j : Nat) : (⟨g, 0, none⟩ : Addr).add j = ⟨g, j, none⟩ := by
 unfold Addr.add
 split
 · rename_i h; rw [h]
 · rw [Nat.zero_add]
theorem yjz {P : Program} {w : World} {src dst e : TypeId} {g n cap : Nat} {f : Nat -> Value} (l : List UInt8) (hs : P.underlying src = some (.slice e)) (he : P.underlying e = some (.int .u8)) (hd : P.underlying dst = some .string)
   (hr : w.rowIs g e n f) (hl : l.length = n) (hf : ∀ i (hi : i < l.length), f i = zm3 l[i]) :
   (convert src dst (.slice (some ⟨g, 0, none⟩) n cap)).run P w = .ok (.string ⟨l.toArray⟩) w := by
 subst hl
 refine run_convert_bytes_back w src dst e _ cap l hs he hd fun j hj => ?_
 have := hr.cell hj
 rw [hf j hj] at this
 rw [zij]
 exact this
def Row (w : World) (b : Nat) (t : TypeId) (n : Nat) (f : Nat -> Value) : Prop :=
 ∃ (c : Array Value) (lo hi : Nat), w.heap[b]? = some (.cells c t (lo, hi)) /\ n <= c.size /\ (hi = 0 \/ n <= lo) /\ ∀ i, i < n -> c[i]? = some (f i)
section
variable {w w' : World} {b : Nat} {t : TypeId} {n : Nat} {f g : Nat -> Value}
theorem Row.cell (h : Row w b t n f) {i : Nat} (hi : i < n) : w.cell? ⟨b, i, none⟩ = some (f i) := by
 obtain ⟨c, lo, hi', hb, _, _, hc⟩ := h
 simp [World.cell?, hb, hc i hi]
theorem Row.frozen (h : Row w b t n f) {i : Nat} (hi : i < n) : w.frozen? ⟨b, i, none⟩ = false := by
 obtain ⟨c, lo, hi', hb, _, hf, _⟩ := h
 simp only [World.frozen?, hb]
 rcases hf with hf | hf
 · subst hf; simp
 · simp; omega
theorem Row.lt (h : Row w b t n f) : b < w.heap.size := by
 obtain ⟨c, lo, hi, hb, _⟩ := h
 exact (Array.getElem?_eq_some_iff.1 hb).1
theorem Row.congr (h : Row w b t n f) (e : ∀ i, i < n -> f i = g i) : Row w b t n g := by
 obtain ⟨c, lo, hi, hb, hn, hf, hc⟩ := h
 exact ⟨c, lo, hi, hb, hn, hf, fun i hi => by rw [hc i hi, e i hi]⟩
theorem Row.of_block (h : Row w b t n f) (e : w'.heap[b]? = w.heap[b]?) : Row w' b t n f := by
 obtain ⟨c, lo, hi, hb, hn, hf, hc⟩ := h
 exact ⟨c, lo, hi, e.trans hb, hn, hf, hc⟩
theorem Row.set (h : Row w b t n f) (i : Nat) (v : Value) : Row (w.setCell ⟨b, i, none⟩ v) b t n (fun j => if j = i then v else f j) := by
 obtain ⟨c, lo, hi', hb, hn, hf, hc⟩ := h
 refine ⟨c.setIfInBounds i v, lo, hi', ?_, by simpa using hn, hf, fun j hj => ?_⟩
 · simp [World.setCell, Array.getElem?_modify, hb]
 · rw [Array.getElem?_setIfInBounds]
   by_cases e : i = j
   · subst e
     have : i < c.size := by omega
     simp [this]
   · rw [if_neg e, hc j hj]
     show _ = some (if j = i then v else f j)
     rw [if_neg (fun (h : j = i) => e h.symm)]
theorem Row.alloc (h : Row w b t n f) (o : Obj) : Row (w.alloc o) b t n f := h.of_block (Below.heap_alloc _ _ _ h.lt)
theorem Row.below (h : Row w b t n f) {B : Nat} (hb : Below B w w') (hB : b < B) : Row w' b t n f := h.of_block (hb.block b hB)
theorem Row.drewN (h : Row w b t n f) (k : Nat) : Row (w.drewN k) b t n f := h
theorem Row.bytes (w : World) (t : TypeId) (l : List UInt8) (cap : Nat) : Row (w.alloc (.cells (bytesRow ⟨l.toArray⟩ cap) t ((bytesRow ⟨l.toArray⟩ cap).size, (bytesRow ⟨l.toArray⟩ cap).size + 1))) w.heap.size t l.length (fun j => zm3 (l.getD j 0)) := by
 refine ⟨bytesRow ⟨l.toArray⟩ cap, _, _, heap_alloc_new _ _, by simp [bytesRow], .inr (by simp [bytesRow]), fun i hi => ?_⟩
 rw [bytesRow_at _ _ _ (by simpa using hi)]
 simp [zm3, hi]
end
def Blk (w : World) (g : Nat) (t : TypeId) (cs : Array Value) : Prop := w.heap[g]? = some (.cells cs t (0, 0))
section
variable {w w' : World} {g : Nat} {t : TypeId} {cs : Array Value}
theorem Blk.lt (h : Blk w g t cs) : g < w.heap.size := by
 rcases Nat.lt_or_ge g w.heap.size with hlt | hge
 · exact hlt
 · unfold Blk at h; rw [Array.getElem?_eq_none hge] at h; cases h
theorem Blk.cell (h : Blk w g t cs) (i : Nat) : w.cell? ⟨g, i, none⟩ = cs[i]? := cell_of_row w g i cs t (0, 0) h
theorem Blk.frozen (h : Blk w g t cs) (i : Nat) : w.frozen? ⟨g, i, none⟩ = false := by
 unfold Blk at h
 simp [World.frozen?, h]
theorem Blk.new (w : World) (t : TypeId) (cs : Array Value) : Blk (w.alloc (.cells cs t)) w.heap.size t cs := heap_alloc_new w _
theorem Blk.drew (h : Blk w g t cs) : Blk w.drew g t cs := h
theorem Blk.drewN (h : Blk w g t cs) (n : Nat) : Blk (w.drewN n) g t cs := h
theorem Blk.alloc (h : Blk w g t cs) (o : Obj) : Blk (w.alloc o) g t cs := (Below.heap_alloc w o g h.lt).trans h
theorem Blk.below {B : Nat} (h : Blk w g t cs) (hb : Below B w w') (hg : g < B) : Blk w' g t cs := (hb.block g hg).trans h
theorem Blk.grown {row : Option Nat} (h : Blk w g t cs) (hb : w.grownBy w' row) (hg : some g ≠ row) : Blk w' g t cs := (hb.block g h.lt hg).trans h
end
theorem zm2 {base : Nat} {e : TypeId} {size n : Nat} {v : Value} {xs : List Value} {w w' : World} (hown : w.ownsRow base e size v n xs) (hb : base <= w.heap.size) (hg : w.grownBy w' v.ownBlock) : Below base w w' :=
 (Below.refl _ _).grown hg hb fun k hk => (hown.lt k hk).1
theorem zke {P : Program} {ops : Array Oper} {rest : List Oper} {o : Oper} {a : Act} {Q : Exit -> Act -> World -> Prop} (wr : World) (hgd : o.guard = none) (s x : Operand) (t : TypeId)
   (ho : o.op = .call { callee := .builtin .append, args := #[s, x], argTypes := #[t, t] })
   (base : Nat) (e : TypeId) (z : Value) (bytes : Nat) (ht : P.underlying t = some (.slice e)) (hinfo : (P.info? e).map (fun i => (i.zero, i.size, i.bytes)) = some (some z, 1, bytes)) (hz1 : z.cells.size = 1)
   (v : Value) (n : Nat) (xs : List Value) (hs : a.eval s = v) (hown : wr.ownsRow base e 1 v n xs)
   (c : Value) (h1 : c.oneCell' = true) (hx : a.eval x = .slice (some ⟨wr.heap.size, 0, none⟩) 1 1)
   (hbytes : (n + 1) * bytes <= 140737488355328) (hn : n < 9223372036854775807) (hbase : base <= wr.heap.size)
   (h : ∀ v' w', w'.ownsRow base e 1 v' (n + 1) (xs ++ [c]) -> Below base wr w' -> wpList P ops Q rest (a.put o.dst v') w') : wpList P ops Q (o :: rest) a (wr.alloc (.cells #[c] e)) := by
 obtain ⟨i, hi, hzz⟩ := Option.map_eq_some_iff.1 hinfo
 simp only [Prod.mk.injEq] at hzz
 obtain ⟨hz, hsz, hby⟩ := hzz
 have hown' := hown.alloc (.cells #[c] e)
 refine wpList_append_own _ hgd s x t ho base e i z 1 bytes ht hi hz hsz hby hz1 (by decide) v n xs hs hown' ⟨wr.heap.size, 0, none⟩ 1 1 [c] hx rfl ?_ ?_ ?_ hbytes ?_ ?_
 · intro j u hj
   match j, hj with
   | 0, hj =>
     simp at hj; subst hj
     rw [zij, cell_of_row _ _ _ _ _ _ (heap_alloc_new wr _)]; rfl
 · intro u hu
   simp at hu; subst hu; exact h1
 · unfold maxLen; omega
 · simp; omega
 · intro v' w' ho' hg _
   exact h v' w' ho' (((Below.refl _ _).alloc hbase _).trans (zm2 hown' (by simp; omega) hg))
theorem zz1 {P : Program} {src dst e : TypeId} (hs : P.underlying src = some (.slice e)) (he : P.underlying e = some (.int .u8)) (hd : P.underlying dst = some .string) {w : World} {base n : Nat} {v : Value} (l : List UInt8)
   (h : w.ownsRow base e 1 v n (l.map zm3)) : (convert src dst v).run P w = .ok (.string ⟨l.toArray⟩) w := by
 rcases h.2 with ⟨rfl, rfl⟩ | ⟨g, cap, cur, rfl, _, hh, hnc, _, hsz, hx⟩
 · have hl : l = [] := by have := h.1; simpa using this
   subst hl
   rw [run_convert_bytes_string w src dst e none 0 0 hs he hd]
   simp [Conv.bytesToString]; rfl
 · have hl : l.length = n := by have := h.1; simpa using this
   subst hl
   refine run_convert_bytes_back w src dst e _ cap l hs he hd fun j hj => ?_
   have := h.cells (g := g) rfl j (zm3 l[j]) (by simp [hj])
   exact this
theorem ybn {a b : List UInt8} (h : a = b) : Ending.returned (.string ⟨a.toArray⟩) = .returned (.string ⟨b.toArray⟩) := by rw [h]
theorem zm9 {P : Program} {a : Act} {w : World} {Q : Exit -> Act -> World -> Prop} {c rest : Code} (l : Nat) (J : Act -> World -> Prop) (μ : Act -> World -> Nat) (hf : findLabel c l = some (.seq .skip rest))
   (pass : ∀ a w, J a w -> rest.wp P (Exit.jump l (fun a' w' => J a' w' /\ μ a' w' < μ a w) Q) a w)
   (first : Hid (∀ a w, J a w -> rest.wp P (Exit.jump l J Q) a w) -> c.wp P (Exit.jump l J Q) a w) : (Code.scope c).wp P Q a w := by
 refine wp_scope_jumps l J μ hf (first fun a w hJ => Code.wp_mono (fun e a' w' hq => ?_) (pass a w hJ)) fun a w hJ => wp_seq (wp_skip (pass a w hJ))
 cases e <;> first | exact hq | exact ⟨hq.1, hq.2.1⟩
section
variable {l : Nat} {J : Act -> World -> Prop} {Q : Exit -> Act -> World -> Prop} {a : Act} {w : World}
@[go_sem] theorem jump_normal : Exit.jump l J Q .normal a w = Q .normal a w := rfl
@[go_sem] theorem jump_exit (id : Nat) : Exit.jump l J Q (.exit id) a w = Q (.exit id) a w := rfl
@[go_sem] theorem jump_ret : Exit.jump l J Q .ret a w = Q .ret a w := rfl
@[go_sem] theorem jump_panic (ch : List PanicEntry) : Exit.jump l J Q (.panic ch) a w = Q (.panic ch) a w := rfl
end
section
variable {H : Type} {enc : TypeId × Value -> H} {P : Program}
theorem zo7 {f : Func} {s : ChangeSpec} {apart fresh handsOn again : Bool} {W W' : World} {args : Array Value} {v : Value} {ds gs : List (DataW H)} {before pa pv : List MemPlace}
   (hW : DataW.Whole enc P f.params.toList s.vars apart W args.toList ds gs before)
   (hres : ∀ (b : Nat) (sp : Nat -> Bool) (hd : Bool), DataW.TrodAll enc P W' b sp hd f.resultTypes.toList (v.resultList f.resultTypes.size) (s.fn H (ds ++ gs)).results [])
   (hargs : ∀ sp : Nat -> Bool, (∀ p ∈ before, sp p.block = true) -> DataW.TrodAll enc P W' 0 sp true f.params.toList args.toList (s.fn H (ds ++ gs)).args pa)
   (hvars : ∀ sp : Nat -> Bool, (∀ p ∈ before, sp p.block = true) -> DataW.TrodVars enc P W' sp s.vars (s.fn H (ds ++ gs)).vars pv)
   (hps : before = pa ++ pv) (hb : Below W.heap.size W W')
   (hok : ∀ (j : Nat) (t : TypeId) (r : Value), f.resultTypes[j]? = some t -> (v.resultList f.resultTypes.size)[j]? = some r -> Value.okWide P W' .any 0 t r) :
   s.post enc P f apart fresh handsOn again W args v W' := by
 have hlt : ∀ p ∈ before, p.block < W.heap.size := fun p hp => hW.lt p hp
 have hold : ∀ p ∈ before, (fun b => decide (b < W.heap.size)) p.block = true := fun p hp => by simpa using hlt p hp
 refine ⟨ds, gs, before, [], pa, pv, hW, hres _ _ _, hargs _ hold, hvars _ hold, World.keptBut_mono (fun p hp => ⟨hp, ?_⟩) (hb.frame (· ∈ before)), fun _ => ?_⟩
 · rw [hps, List.mem_append] at hp
   exact Or.inr hp
 · obtain ⟨_, _, _, _, _, hz, hn⟩ := hW
   refine ⟨hok, _, _, ([] ++ pa) ++ pv, ⟨[] ++ pa, pv, trodAll_append (hargs _ (fun _ _ => rfl)) (hres _ _ _), hvars _ (fun _ _ => rfl), rfl, ?_, ?_⟩, ?_⟩
   · intro b off hp
     have hin : MemPlace.cell b off ∈ before := by rw [hps]; simpa using hp
     rw [hb.frozen (hlt _ hin)]
     exact hz b off hin
   · intro ha
     have := hn ha
     rw [hps] at this
     simpa using this
   · intro p hp _
     rw [hps]
     simpa using hp
theorem zhl (hl : laidOutB P = true) {W W' : World} (hb : Below W.heap.size W W') {sp : Nat -> Bool} :
   ∀ {ts : List TypeId} {vs : List Value} {ds : List (DataW H)} {ps : List MemPlace}, (∀ t ∈ ts, P.readableRec t = true /\ t < P.types.size) ->
   DataW.TrodAll enc P W 0 (fun _ => true) true ts vs ds ps -> (∀ x ∈ ps, x.block < W.heap.size) -> (∀ x ∈ ps, sp x.block = true) -> DataW.TrodAll enc P W' 0 sp true ts vs ds ps
 | [], [], [], _, _, h, _, _ => h
 | _ :: _, _ :: _, _ :: _, _, hr, ⟨p, q, h1, h2, e⟩, hlt, hs =>
   ⟨p, q, WideElems.Trod_stays hl (hr _ (List.mem_cons.2 (Or.inl rfl))).1 (hr _ (List.mem_cons.2 (Or.inl rfl))).2 h1
       (fun x hx => hb.same (hlt x (by rw [e]; exact List.mem_append_left _ hx))) (fun x hx => hs x (by rw [e]; exact List.mem_append_left _ hx)),
     zhl hl hb (fun t ht => hr t (List.mem_cons.2 (Or.inr ht))) h2 (fun x hx => hlt x (by rw [e]; exact List.mem_append_right _ hx)) (fun x hx => hs x (by rw [e]; exact List.mem_append_right _ hx)), e⟩
theorem post_law {f : Func} {s : ChangeSpec} {apart fresh handsOn again : Bool} {W W' : World} {args : Array Value} {ds : List (DataW H)} {before : List MemPlace} {tb : TypeId}
   (hl : laidOutB P = true) (hr : (f.params.toList.all fun t => P.readableRec t && decide (t < P.types.size)) = true) (hbt : f.resultTypes = #[tb]) (hub : P.underlying tb = some .bool) (hsv : s.vars = [])
   (hW : DataW.Whole enc P f.params.toList s.vars apart W args.toList ds [] before)
   (hfn : s.fn H (ds ++ []) = { results := [.lit (.bool true)], args := ds }) (hb : Below W.heap.size W W') :
   s.post enc P f apart fresh handsOn again W args (.bool true) W' := by
 have hlt : ∀ p ∈ before, p.block < W.heap.size := fun p hp => hW.lt p hp
 obtain ⟨p, q, hA, hV, hpq, _, _⟩ := id hW
 rw [hsv] at hV
 have hq : q = [] := hV
 subst hq
 rw [List.append_nil] at hpq
 subst hpq
 refine zo7 (pa := before) (pv := []) hW ?_ ?_ ?_ (by simp) hb ?_
 · intro _ _ _
   rw [hfn, hbt]
   exact trodAll_mk1 (shut_bool hub true)
 · intro sp hsp
   rw [hfn]
   exact zhl hl hb (fun t ht => by simpa using List.all_eq_true.1 hr t ht) hA hlt hsp
 · intro sp _
   rw [hfn, hsv]
   rfl
 · exact ok_one hbt rfl (okWide_bool_mk hub true)
end
end Go.Proofs.YtogpolfhcbgcbaaGreatDoor
namespace Go.Proofs.YtogpolfhcbgcbaaGreatDoor
open Go.RowKit
theorem i5 : (Tryz.prog.info? 5).map (fun i => (i.zero, i.size, i.bytes)) = some (some (.int .u8 0), 1, 1) := by kernel_rfl
def cl8 (k : Int) : Nat := (min (max k 0) 8).toNat
def zsg (n : Nat) : Nat -> List UInt8
 | 0 => []
 | i+1 => UInt8.ofNat (n / 256^i) :: zsg n i
theorem yu3 (k : Int) : cl8 k <= 8 := by unfold cl8; omega
theorem zsf (n c : Nat) : (zsg n c).length = c := by induction c <;> simp_all [zsg]
theorem yhl (n c t : Nat) (h : t < (zsg n c).length) : (zsg n c)[t] = UInt8.ofNat (n / 256 ^ (c - 1 - t)) := by
 induction c generalizing t with
 | zero => simp [zsg] at h
 | succ c ih =>
   rcases t with _ | t
   · simp [zsg]
   · simp only [zsg, List.getElem_cons_succ]
     rw [ih]
     congr 3; omega
set_option maxRecDepth 100000 in
set_option maxHeartbeats 400000 in
theorem ymy (n : Nat) (k : Int) (w : World) (_hn : n < 18446744073709551616) :
   Calls Tryz.prog 138 #[.int .u64 n, .int .i64 k] w fun e w' => e = .returned (.string ⟨(zsg n (cl8 k)).toArray⟩) /\ Below w.heap.size w w' := by
 have h8 := yu3 k
 have hmk := fun W => run_make_row' (P := Tryz.prog) 94 5 (.int .u8 0) 1 Tryz.underlying94 i5 rfl .i64 .i64 (cl8 k) (by omega) (by omega) W
 go_enter Tryz.func138, Tryz.ntmps138
 go_upto_region 1 with (fail)
 go_cut [1] (fun v wx => v = .int .i64 (cl8 k) /\ w = wx)
 case first =>
   go_wp2
   all_goals (go_meet; exact ⟨by unfold cl8; go_num, rfl⟩)
 case rest =>
   obtain ⟨rfl, rfl⟩ := hcut
   generalize hc : cl8 k = c at *
   have Hc := Lib.hid hc
   clear hc
   go_wp2
   go_loopw [0, 6] (fun m i wr => ∃ j x : Nat, j <= c /\ i = .int .i64 ((j : Int) - 1) /\ m = .int .u64 (x : Int) /\ Hid (x = n / 256 ^ (c - j)) /\
      wr.rowIs w.heap.size 5 c (fun t => if t < j then .int .u8 0 else zm3 (UInt8.ofNat (n / 256 ^ (c - 1 - t)))) /\ Below w.heap.size w wr) (fun _ i _ => (intOf i + 1).toNat)
   case atStart =>
     refine ⟨c, n, by omega, by simp, by simp, Lib.hid (by simp), ?_, ?_⟩
     · exact (World.rowIs_made w (.int .u8 0) c 5).congr (fun i hi => by simp [hi])
     · exact (Below.refl _ _).alloc (Nat.le_refl _) _
   case round =>
     obtain ⟨j, x, hj, rfl, rfl, hx, hrow, hb⟩ := hrel
     rcases j with _ | j
     · have hconv := fun cc => yjz (P := Tryz.prog) (src := 94) (dst := 9) (cap := cc) (zsg n c) Tryz.underlying94 Tryz.underlying5 Tryz.underlying9 hrow (zsf n c) (fun i hi => by simp [yhl])
       go_wp2
       go_ret
       exact ⟨ybn (by rw [Hc.out]), hb⟩
     · have hc := hrow.cell (i := j) (by omega)
       have hf := hrow.frozen j
       have hs := hrow.set j (.int .u8 ((x : Int) % 256))
       have hB := hb.setCell (p := ⟨w.heap.size, j, none⟩) (Nat.le_refl _) (.int .u8 ((x : Int) % 256))
       have h0 : ((j + 1 : Nat) : Int) - 1 = j := by omega
       rw [h0]
       simp only [Nat.lt_succ_self, if_true] at hc
       clear hrow hb h0
       go_wp2
       go_roundw
       case rel =>
         refine ⟨j, x / 256, by omega, rfl, rfl, Lib.hid ?_, hs.congr fun t ht => ?_, hB⟩
         · rw [hx.out, Nat.div_div_eq_div_mul, <- Nat.pow_succ]; congr 2; omega
         · by_cases h1 : t = j
           · subst h1; rw [if_pos rfl, if_neg (by omega), zhd, hx.out, show c - (t + 1) = c - 1 - t by omega]
           · rw [if_neg h1]
             by_cases h2 : t < j
             · rw [if_pos h2, if_pos (by omega)]
             · rw [if_neg h2, if_neg (by omega)]
       case measure => simp [intOf] <;> omega
def zdg (n : Nat) : List UInt8 := if n < 128 then [UInt8.ofNat n] else UInt8.ofNat (n % 128 + 128) :: zdg (n / 128)
termination_by n
decreasing_by omega
theorem zbd {n : Nat} (h : n < 128) : zdg n = [UInt8.ofNat n] := by rw [zdg, if_pos h]
theorem zgl {n : Nat} (h : 128 <= n) : zdg n = UInt8.ofNat (n % 128 + 128) :: zdg (n / 128) := by rw [zdg, if_neg (by omega)]
theorem yvy (x : Nat) : bits .or .u8 ((x : Int) % 256) 128 = (x : Int) % 128 + 128 := by
 have h := u8_or_nat (x % 256) 128 (by omega) (by omega)
 have h2 : x % 256 ||| 128 = x % 128 + 128 := by
   have e1 : x % 256 = x % 128 + x / 128 % 2 * 128 := by omega
   have h3 : x / 128 % 2 = 0 \/ x / 128 % 2 = 1 := by omega
   have j1 : ∀ y, y < 128 -> 128 ||| y = 128 + y := fun y hy => nat_join 7 128 y (by decide) hy
   have e2 : ∀ y, y < 128 -> (y + 128) ||| 128 = y + 128 := fun y hy => by
     rw [Nat.add_comm y 128, <- j1 y hy, Nat.or_comm 128 y, Nat.or_assoc, Nat.or_self]
   rcases h3 with h3 | h3
   · rw [e1, h3, Nat.or_comm]; simp only [Nat.zero_mul, Nat.add_zero]; rw [j1 _ (by omega)]; omega
   · rw [e1, h3, Nat.one_mul, e2 _ (by omega)]
 rw [h2] at h
 have e : (((x % 256 : Nat) : Int)) = (x : Int) % 256 := by omega
 rw [e] at h
 rw [show ((128 : Nat) : Int) = 128 from rfl] at h
 rw [h]; omega
set_option maxRecDepth 100000 in
set_option maxHeartbeats 400000 in
theorem yaq (n : Nat) (w : World) (hn : n < 18446744073709551616) :
   Calls Tryz.prog 137 #[.int .u64 n] w fun e w' => e = .returned (.string ⟨(zdg n).toArray⟩) /\ Below w.heap.size w w' := by
 go_enter Tryz.func137, Tryz.ntmps137
 go_wp2
 refine zm9 0 (fun a' w' => Below w.heap.size w w' /\ ∃ (x k : Nat) (v : Value) (pre : List UInt8), Hid (pre ++ zdg x = zdg n) /\ x < 18446744073709551616 /\ k <= 10 /\ Hid (x * 128 ^ k <= n) /\ w'.ownsRow w.heap.size 5 1 v k (pre.map zm3) /\ ∃ u1 u2 u4 u5 u6 u7 u8 u9 u10 u11 u12 u13 u14 u15 u16 u17 u18 u19 : Value, a' = ⟨#[.int .u64 (x : Int), u1, u2, v, u4, u5, u6, u7, u8, u9, u10, u11, u12, u13, u14, u15, u16, u17, u18, u19], []⟩) (fun a' _ => (intOf (a'.tmps.getD 0 undef)).toNat) rfl ?_ ?_
 · rintro a' wr ⟨hb, x, k, v, pre, hpre, hx, hk, hxk, hown, u1, u2, u4, u5, u6, u7, u8, u9, u10, u11, u12, u13, u14, u15, u16, u17, u18, u19, rfl⟩
   have hor := yvy x
   have hsz := hb.size
   by_cases hlt : x < 128
   · have hx8 : ∀ w1 : World, ∀ v1, w1.ownsRow w.heap.size 5 1 v1 (k + 1) (List.map zm3 pre ++ [Value.int .u8 (x : Int)]) -> (convert 94 9 v1).run Tryz.prog w1 = .ok (.string ⟨(pre ++ [UInt8.ofNat x]).toArray⟩) w1 := fun w1 v1 h =>
       zz1 (P := Tryz.prog) (src := 94) (dst := 9) (e := 5) Tryz.underlying94 Tryz.underlying5 Tryz.underlying9 (pre ++ [UInt8.ofNat x]) (by
         have e : (Value.int .u8 (x : Int)) = zm3 (UInt8.ofNat x) := by rw [zhd]; go_num
         rw [List.map_append, List.map_singleton, <- e]; exact h)
     have Hx8 := Lib.hid hx8
     clear hx8
     go_wp2_with (at_builtin; refine zke _ rfl _ _ 94 rfl w.heap.size 5 (.int .u8 0) 1 Tryz.underlying94 i5 rfl _ _ _ rfl hown _ rfl rfl (by omega) (by omega) hsz ?_; intro v1 w1 hown1 hb1; have hcv := Hx8.out w1 v1 hown1; clear hown1 hown hor)
     go_ret
     exact ⟨ybn (by rw [<- hpre.out, zbd hlt]), hb.trans (by assumption)⟩
   · go_wp2_with (at_builtin; refine zke _ rfl _ _ 94 rfl w.heap.size 5 (.int .u8 0) 1 Tryz.underlying94 i5 rfl _ _ _ rfl hown _ rfl rfl (by omega) (by omega) hsz ?_; intro v1 w1 hown1 hb1)
     go_step3
     have h128 : 128 * 128 ^ k <= n := Nat.le_trans (Nat.mul_le_mul_right _ (by omega)) hxk.out
     have hk9 : k + 1 <= 10 := by
       refine Decidable.byContradiction fun h => ?_
       have : 128 ^ 10 <= 128 ^ k := Nat.pow_le_pow_right (by decide) (by omega)
       have h3 : (128 : Nat) ^ 10 = 1180591620717411303424 := by decide
       omega
     exact ⟨rfl, ⟨hb.trans hb1, x / 128, k + 1, v1, pre ++ [UInt8.ofNat (x % 128 + 128)], Lib.hid (by rw [List.append_assoc, <- hpre.out, zgl (n := x) (by omega)]; rfl), by omega, hk9, Lib.hid (by
       rw [Nat.pow_succ]; have h4 : x / 128 * (128 ^ k * 128) <= x * 128 ^ k := by
         rw [Nat.mul_comm (128 ^ k) 128, <- Nat.mul_assoc]; exact Nat.mul_le_mul_right _ (by omega)
       exact Nat.le_trans h4 hxk.out), by
       rw [List.map_append, List.map_singleton, zhd]; rw [show (((x % 128 + 128 : Nat) : Int) % 256) = (x : Int) % 128 + 128 by omega]; exact hown1, _, _, _, _, _, _, _, _, _, _, _, _, _, _, _, _, _, _, rfl⟩, by simp [intOf]; omega⟩
 · intro hP
   go_wp2
   go_step3
   simp only [Exit.then]
   apply_assumption
   exact hP.out _ _ ⟨Below.refl _ _, n, 0, _, [], Lib.hid rfl, hn, by omega, Lib.hid (by simp), World.ownsRow_nil _ _ _ _, _, _, _, _, _, _, _, _, _, _, _, _, _, _, _, _, _, _, rfl⟩
end Go.Proofs.YtogpolfhcbgcbaaGreatDoor
namespace Go.Proofs.YtogpolfhcbgcbaaGreatDoor
open Go.RowKit
def Parts (w : World) (g : Nat) (ps : List (List UInt8)) : Prop := ∀ j (h : j < ps.length), w.cell? ⟨g, j, none⟩ = some (.string ⟨ps[j].toArray⟩)
def zzp (ps : List (List UInt8)) : List UInt8 := ps.flatten
end Go.Proofs.YtogpolfhcbgcbaaGreatDoor
namespace Go.Proofs.YtogpolfhcbgcbaaGreatDoor
namespace Sy
open Go Go.RowKit
set_option maxRecDepth 100000
def putZ (e n : Int) : List UInt8 := zsg e.toNat (cl8 n)
def ymz (e n : Int) : Prop := 0 <= e /\ e < 18446744073709551616 /\ -9223372036854775808 <= n /\ n <= 9223372036854775807
def upto (n : Nat) (l : List UInt8) : Prop := l.length <= n
def yhk (L : za7) : zbf := (138, fun xs => match xs with | [.int .u64 e, .int .i64 n] => some (L2 L ymz e n, .str (L2 L putZ e n)) | _ => none)
theorem ynx (k : IntKind) (n : Int) : ∀ h D, R h D zas (.int k n) (.int k n) := fun _ _ => .int k n
theorem zn1 {e : Int} (h : 0 <= e) : ∃ n : Nat, e = n := ⟨e.toNat, by omega⟩
theorem zus : zaz Tryz.prog (yhk std) := by
 intro xs p r h hp
 dsimp only [yhk] at h |-
 split at h <;> cases h
 rename_i e n
 obtain ⟨h0, h1, h2, h3⟩ : ymz e n := hp
 obtain ⟨k, rfl⟩ := zn1 h0
 exact ze6 (fn := Tryz.f138) rfl rfl (by kernel_rfl) (zzf (zdx _ _) (zdx _ _)) (fun h D => ygr h D _ _) (fun w => ymy k n w (by omega))
end Sy
end Go.Proofs.YtogpolfhcbgcbaaGreatDoor
namespace Go.Proofs.YtogpolfhcbgcbaaGreatDoor
namespace Sy
open Go Go.RowKit
set_option maxRecDepth 100000
set_option linter.unusedSimpArgs false
set_option linter.unusedVariables false
def zah (c : UInt8) : List UInt8 -> List (List UInt8)
 | [] => [[]]
 | x :: s => if x = c then [] :: zah c s else match zah c s with
   | y :: r => (x :: y) :: r
   | [] => [[x]]
theorem zkk (c : UInt8) : ∀ s, zah c s ≠ []
 | [] => by simp [zah]
 | x :: s => by
   unfold zah
   split
   · simp
   · split <;> simp
theorem zhp {c : UInt8} : ∀ {s : List UInt8} {m : Nat}, (∀ k, k < m -> s[k]? ≠ some c) -> s[m]? = some c -> zah c s = s.take m :: zah c (s.drop (m + 1))
 | [], m, _, h => by simp at h
 | x :: s, 0, _, h => by
   simp at h; subst h
   simp [zah]
 | x :: s, m + 1, h0, h => by
   have hx : x ≠ c := by
     have := h0 0 (by omega)
     intro e; subst e; simp at this
   have ih := zhp (s := s) (m := m) (fun k hk => by have := h0 (k + 1) (by omega); simpa using this) (by simpa using h)
   rw [zah, if_neg hx, ih]
   simp
theorem zeq {c : UInt8} : ∀ {s : List UInt8}, (∀ k : Nat, s[k]? ≠ some c) -> zah c s = [s]
 | [], _ => rfl
 | x :: s, h0 => by
   have hx : x ≠ c := by
     have := h0 0
     intro e; subst e; simp at this
   have ih := zeq (s := s) (fun k => by have := h0 (k + 1); simpa using this)
   rw [zah, if_neg hx, ih]
theorem zat (c : UInt8) : ∀ s : List UInt8, (zah c s).length = s.count c + 1
 | [] => by simp [zah]
 | x :: s => by
   have ih := zat c s
   unfold zah
   by_cases hx : x = c
   · rw [if_pos hx, List.length_cons, ih, hx, List.count_cons_self]
   · rw [if_neg hx, List.count_cons_of_ne (fun e => hx e)]
     cases hs : zah c s with
     | nil => exact absurd hs (zkk c s)
     | cons y r => rw [hs] at ih; simpa using ih
theorem ydt {s : List UInt8} {c : UInt8} (h : Lib.indexByte s c < 0) : ∀ k : Nat, s[k]? ≠ some c := by
 have := Lib.indexByte_ge s c
 exact Lib.indexByte_none (by omega)
theorem zqq {s : List UInt8} {c : UInt8} (h : ¬ Lib.indexByte s c < 0) : s[(Lib.indexByte s c).toNat]? = some c /\ (∀ k, k < (Lib.indexByte s c).toNat -> s[k]? ≠ some c) /\ (Lib.indexByte s c).toNat < s.length := by
 obtain ⟨o, ho⟩ : ∃ o : Nat, Lib.indexByte s c = o := ⟨(Lib.indexByte s c).toNat, by omega⟩
 have h1 := Lib.indexByte_some ho
 have e : (Lib.indexByte s c).toNat = o := by omega
 rw [e]
 exact ⟨h1.1, h1.2, (List.getElem?_eq_some_iff.1 h1.1).1⟩
theorem yt1 (s : List UInt8) (c : UInt8) : -1 <= Lib.indexByte s c /\ Lib.indexByte s c <= s.length := by
 have h0 := Lib.indexByte_ge s c
 by_cases h : Lib.indexByte s c < 0
 · omega
 · have := (zqq h).2.2; omega
def by1 (sep : List UInt8) : UInt8 := sep.headD 0
def zod (sep : List UInt8) : Prop := sep.length = 1
theorem zsq {sep : List UInt8} (h : zod sep) : sep = [by1 sep] := by
 match sep, h with
 | [c], _ => rfl
def zfw (s sep : List UInt8) : Int := Lib.indexByte s (by1 sep)
def zpm (s sep : List UInt8) : Int := s.count (by1 sep)
def zae (s sep : List UInt8) : List (List UInt8) := zah (by1 sep) s
def yd6 (l : List (List UInt8)) : Nat := l.length
def yw8 (L : za7) (l : List (List UInt8)) : AV := .lst 1 (L yd6 l) (fun i _ => .str (L2 L zec l i))
def yiw (L : za7) : zbf := (54, fun xs => match xs with | [.str s, .str sep] => some (L zod sep, .int .i64 (L2 L zfw s sep)) | _ => none)
def yo7 (L : za7) : zbf := (70, fun xs => match xs with | [.str s, .str sep] => some (L zod sep, .int .i64 (L2 L zfw s sep)) | _ => none)
def yf0 (L : za7) : zbf := (30, fun xs => match xs with | [.str s, .str sep] => some (L zod sep, .int .i64 (L2 L zpm s sep)) | _ => none)
theorem zw1 : zaz Tryz.prog (yiw std) := by
 intro xs p r h hp
 dsimp only [yiw] at h |-
 split at h <;> cases h
 try simp only [L2, L3, std] at hp |-
 rename_i s sep
 have h1 := zsq (show zod sep from hp)
 rw [h1]
 refine ze6 (fn := Tryz.f54) rfl rfl (by kernel_rfl) (zzf (zcp _) (zcp _)) (ynx _ _) (fun w => (Tryz.strings_Index_one ⟨s.toArray⟩ (by1 sep) w).mono ?_)
 rintro e w' ⟨rfl, rfl⟩
 exact ⟨rfl, Below.refl _ _⟩
theorem yiz : zaz Tryz.prog (yo7 std) := by
 intro xs p r h hp
 dsimp only [yo7] at h |-
 split at h <;> cases h
 try simp only [L2, L3, std] at hp |-
 rename_i s sep
 have h1 := zsq (show zod sep from hp)
 rw [h1]
 refine ze6 (fn := Tryz.f70) rfl rfl (by kernel_rfl) (zzf (zcp _) (zcp _)) (ynx _ _) (fun w => (Tryz.stringslite_Index_one ⟨s.toArray⟩ (by1 sep) w).mono ?_)
 rintro e w' ⟨rfl, rfl⟩
 exact ⟨rfl, Below.refl _ _⟩
theorem zpb : zaz Tryz.prog (yf0 std) := by
 intro xs p r h hp
 dsimp only [yf0] at h |-
 split at h <;> cases h
 try simp only [L2, L3, std] at hp |-
 rename_i s sep
 have h1 := zsq (show zod sep from hp)
 rw [h1]
 refine ze6 (fn := Tryz.f30) rfl rfl (by kernel_rfl) (zzf (zcp _) (zcp _)) (ynx _ _) (fun w => (Tryz.strings_Count_one ⟨s.toArray⟩ (by1 sep) w).mono ?_)
 rintro e w' ⟨rfl, rfl⟩
 exact ⟨rfl, Below.refl _ _⟩
def yjv (s sep : List UInt8) : List UInt8 := if zfw s sep < 0 then s else s.take (zfw s sep).toNat
def yew (s sep : List UInt8) : List UInt8 := if zfw s sep < 0 then [] else s.drop ((zfw s sep).toNat + 1)
def yu0 (s sep : List UInt8) : Bool := decide (0 <= zfw s sep)
def yeu (L : za7) : zbf := (147, fun xs => match xs with | [.str s, .str sep] => some (L zod sep /\ L2 L upto 1000000000 s, .tup [.str (L2 L yjv s sep), .str (L2 L yew s sep), .bool (L2 L yu0 s sep)]) | _ => none)
def ypf (L : za7) : zbf := (139, fun xs => match xs with | [.str s, .str sep] => some (L zod sep /\ L2 L upto 1000000000 s, .tup [.str (L2 L yjv s sep), .str (L2 L yew s sep), .bool (L2 L yu0 s sep)]) | _ => none)
theorem yev : zaz Tryz.prog (yeu std) := by
 intro xs p r h hp
 dsimp only [yeu] at h |-
 split at h <;> cases h
 try simp only [L2, L3, std] at hp |-
 rename_i s sep
 obtain ⟨p1, p2⟩ : zod sep /\ s.length <= 1000000000 := hp
 refine za6 (T := tt) (S := fun L => zam [yo7 L]) (lo := noA) (lb := noA) 5 (fn := Tryz.f147) rfl rfl (by kernel_rfl) (by kernel_rfl) rfl zab (za2 ⟨yiz, trivial⟩) (by kernel_rfl) ?_
 (intro L P1 Q1 hL hP hQ; cbv; subst hL; simp only [L2, L3, std, syT]; subst hQ)
 (simp only [syS, reduceCtorEq, Int.reduceToNat, Int.reduceAdd, Int.reduceSub])
 have hl := yt1 s (by1 sep)
 refine ⟨p1, fun h => ?_, fun h => ?_⟩
 · have := (zqq (c := by1 sep) (s := s) (by show ¬ zfw s sep < 0; omega)).2.2
   have e0 : ¬ zfw s sep < 0 := by omega
   have e1 : (sep.length : Int) = 1 := by rw [p1]; rfl
   have hl : -1 <= zfw s sep /\ zfw s sep <= s.length := hl
   have this : (zfw s sep).toNat < s.length := this
   rw [e1, show (zfw s sep + 1 + 9223372036854775808) % 18446744073709551616 - 9223372036854775808 = zfw s sep + 1 by omega]
   refine ⟨by omega, by omega, (if_neg e0).symm, ?_, (decide_eq_true h).symm⟩
   rw [yew, if_neg e0, show (zfw s sep + 1).toNat = (zfw s sep).toNat + 1 by omega]
 · exact ⟨(if_pos (by omega)).symm, (if_pos (by omega)).symm, (decide_eq_false (by omega)).symm⟩
theorem yjs : zaz Tryz.prog (ypf std) := by
 intro xs p r h hp
 dsimp only [ypf] at h |-
 split at h <;> cases h
 try simp only [L2, L3, std] at hp |-
 rename_i s sep
 obtain ⟨p1, p2⟩ : zod sep /\ s.length <= 1000000000 := hp
 refine za6 (T := tt) (S := fun L => zam [yeu L]) (lo := noA) (lb := noA) 5 (fn := Tryz.f139) rfl rfl (by kernel_rfl) (by kernel_rfl) rfl zab (za2 ⟨yev, trivial⟩) (by kernel_rfl) ?_
 (intro L P1 Q1 hL hP hQ; cbv; subst hL; simp only [L2, L3, std, syT]; subst hQ)
 (simp only [syS, reduceCtorEq, Int.reduceToNat, Int.reduceAdd, Int.reduceSub])
 exact ⟨p1, p2⟩
def zei (c : UInt8) (s : List UInt8) : Nat -> List UInt8
 | 0 => s
 | i + 1 => (zei c s i).drop ((Lib.indexByte (zei c s i) c).toNat + 1)
theorem zdl (c : UInt8) (s : List UInt8) : ∀ i, i <= s.count c -> zah c (zei c s i) = (zah c s).drop i /\ (zei c s i).length <= s.length
 | 0, _ => by simp [zei]
 | i + 1, h => by
   obtain ⟨ih, hl⟩ := zdl c s i (by omega)
   have hlen := congrArg List.length ih
   rw [zat, List.length_drop, zat] at hlen
   have hn : ¬ Lib.indexByte (zei c s i) c < 0 := by
     intro hn
     have h0 := zeq (ydt hn)
     have := congrArg List.length h0
     rw [zat] at this
     simp at this
     omega
   obtain ⟨h1, h2, h3⟩ := zqq hn
   have e := zhp h2 h1
   rw [ih] at e
   have e2 := congrArg (List.drop 1) e
   rw [List.drop_drop, List.drop_succ_cons, List.drop_zero] at e2
   refine ⟨by rw [zei, <- e2], ?_⟩
   rw [zei, List.length_drop]; omega
theorem zg1 {c : UInt8} {s : List UInt8} {i : Nat} (h : i < s.count c) : 0 <= Lib.indexByte (zei c s i) c /\ (Lib.indexByte (zei c s i) c).toNat < (zei c s i).length /\ zec (zah c s) i = (zei c s i).take (Lib.indexByte (zei c s i) c).toNat := by
 obtain ⟨ih, hl⟩ := zdl c s i (by omega)
 have hlen := congrArg List.length ih
 rw [zat, List.length_drop, zat] at hlen
 have hn : ¬ Lib.indexByte (zei c s i) c < 0 := by
   intro hn
   have h0 := zeq (ydt hn)
   have := congrArg List.length h0
   rw [zat] at this
   simp at this
   omega
 obtain ⟨h1, h2, h3⟩ := zqq hn
 refine ⟨by omega, h3, ?_⟩
 have e := zhp h2 h1
 rw [ih] at e
 have hlt : i < (zah c s).length := by rw [zat]; omega
 rw [zec, List.getD_eq_getElem?_getD, List.getElem?_eq_getElem hlt]
 rw [List.drop_eq_getElem_cons hlt] at e
 exact (List.cons.inj e).1
theorem zq1 (c : UInt8) (s : List UInt8) : zec (zah c s) (s.count c) = zei c s (s.count c) := by
 obtain ⟨ih, hl⟩ := zdl c s (s.count c) (Nat.le_refl _)
 have hlen := congrArg List.length ih
 rw [zat, List.length_drop, zat] at hlen
 have hc : (zei c s (s.count c)).count c = 0 := by omega
 have h0 : zah c (zei c s (s.count c)) = [zei c s (s.count c)] := zeq (fun k hk => by
   have := List.count_pos_iff.2 (List.mem_of_getElem? hk)
   omega)
 rw [h0] at ih
 have hlt : s.count c < (zah c s).length := by rw [zat]; omega
 rw [zec, List.getD_eq_getElem?_getD, List.getElem?_eq_getElem hlt]
 rw [List.drop_eq_getElem_cons hlt] at ih
 exact (List.cons.inj ih).1.symm
def zc6 (s sep : List UInt8) (i : Nat) : List UInt8 := zei (by1 sep) s i
def zlv (s sep : List UInt8) (i j : Nat) : List UInt8 := if j < i then zec (zae s sep) j else []
def cntB (s sep : List UInt8) : Nat := s.count (by1 sep)
theorem zwk (s sep : List UInt8) : cntB s sep <= s.length := List.count_le_length
def splA (L : za7) (s sep : List UInt8) : Nat -> St -> Option Ann := fun id st => match id with
 | 0 => some ⟨Nat, fun i => [(0, .str (L3 L zc6 s sep i)), (10, .int .i64 (L zac i)), (9, .sl 900 1 0 (L (fun n : Nat => n + 1) (L2 L cntB s sep))), (3, .int .i64 (L zac (L2 L cntB s sep)))],
     fun i => [(900, .row 9 1 (L (fun n : Nat => n + 1) (L2 L cntB s sep)) (fun j _ => .str (L (L3 L zlv s sep i) j)))], [1, 2], [],
     fun i => L3 L (fun s sep i => i <= cntB s sep) s sep i, fun i => L3 L (fun s sep i => cntB s sep - i) s sep i⟩
 | _ => none
theorem zv1 (q : Nat) (v : List UInt8) (f : Nat -> List UInt8) (i j : Nat) (h : j < 1) : over std q 0 1 [.str v] (fun i _ => .str (f i)) i j = .str (if i = q then v else f i) := by
 have : j = 0 := by omega
 subst this
 rw [zgm, if_pos ⟨Nat.le_refl _, by omega⟩]
 by_cases h : i = q
 · subst h; simp [za4, zhh, L3, std, zbo]
 · simp [zai h, zhh, L3, std, zbo, h]
def nev (f : Nat) : zbf := (f, fun _ => some (False, .dead))
theorem zvd (f : Nat) : zaz Tryz.prog (nev f) := by
 intro xs p r h hp
 cases h
 exact hp.elim
def yog (L : za7) : zbf := (72, fun xs => match xs with
 | [.str s, .str sep, .int .i64 a, .int .i64 b] => some (L zod sep /\ L2 L upto 1000000000 s /\ L2 L (fun a b : Int => a = 0 /\ b = -1) a b, yw8 L (L2 L zae s sep))
 | _ => none)
theorem yj6 : zaz Tryz.prog (yog std) := by
 intro xs p r h hp
 dsimp only [yog] at h |-
 split at h <;> cases h
 try simp only [L2, L3, std] at hp |-
 rename_i s sep a b
 obtain ⟨p1, p2, rfl, rfl⟩ : zod sep /\ s.length <= 1000000000 /\ a = 0 /\ b = -1 := hp
 refine za6 (T := tt) (S := fun L => zam [yiw L, yf0 L, nev 96]) (lo := fun L => splA L s sep) (lb := noA) 5 (fn := Tryz.f72) rfl rfl (by kernel_rfl) (by kernel_rfl) rfl zab (za2 ⟨zw1, zpb, zvd _, trivial⟩) (by kernel_rfl) ?_
 intro L P' Q' hL hP hQ
 (cbv; try simp only [syT, true_and, and_true])
 have hc : zpm s sep = (cntB s sep : Int) := rfl
 have hle := zwk s sep
 have hsep : sep ≠ [] := fun e => by rw [e] at p1; cases p1
 refine ⟨fun h => ?_, fun h1 => ⟨fun h => ?_, fun h2 => ⟨fun h3 => ⟨?_, ?_, ⟨0, ?_⟩, fun i hi => ?_⟩, fun h3 => ?_⟩⟩⟩
 · (subst hL; subst hQ; simp only [L2, L3, std] at *; try simp only [syS, reduceCtorEq, Int.reduceToNat, Int.reduceAdd, Int.reduceSub] at *)
 · (subst hL; subst hQ; simp only [L2, L3, std] at *; try simp only [syS, reduceCtorEq, Int.reduceToNat, Int.reduceAdd, Int.reduceSub] at *)
   exact absurd h hsep
 · (subst hL; subst hQ; simp only [L2, L3, std] at *; try simp only [syS, reduceCtorEq, Int.reduceToNat, Int.reduceAdd, Int.reduceSub] at *)
   exact p1
 · (subst hL; subst hQ; simp only [L2, L3, std] at *; try simp only [syS, reduceCtorEq, Int.reduceToNat, Int.reduceAdd, Int.reduceSub] at *)
   rw [hc]
   omega
 · (cbv; try simp only [syT, true_and, and_true])
   (subst hL; subst hQ; simp only [L2, L3, std] at *; try simp only [syS, reduceCtorEq, Int.reduceToNat, Int.reduceAdd, Int.reduceSub] at *)
   rw [hc, show min (((cntB s sep : Nat) + 1 + 9223372036854775808 : Int) % 18446744073709551616 - 9223372036854775808) (((s.length : Nat) + 1 + 9223372036854775808 : Int) % 18446744073709551616 - 9223372036854775808) = (cntB s sep : Nat) + 1 by omega]
   refine ⟨⟨by omega, fun k j hk hj => ?_⟩, by omega, by omega, rfl, Nat.zero_le _⟩
   rw [zlv, if_neg (by omega)]
   match j, hj with
   | 0, _ => rfl
 · cbv at hi
   (cbv; try simp only [syT, true_and, and_true])
   refine ⟨fun h4 => ⟨?_, fun h5 => ?_, fun h5 => ⟨?_, ?_, ?_, i + 1, ?_⟩⟩, fun h4 => ⟨?_, ?_, ?_⟩⟩
   · (subst hL; subst hQ; simp only [L2, L3, std] at *; try simp only [syS, reduceCtorEq, Int.reduceToNat, Int.reduceAdd, Int.reduceSub] at *)
     exact p1
   · (subst hL; subst hQ; simp only [L2, L3, std] at *; try simp only [syS, reduceCtorEq, Int.reduceToNat, Int.reduceAdd, Int.reduceSub] at *)
     obtain ⟨r1, r2, r3⟩ := zg1 (c := by1 sep) (s := s) (i := i) (show i < cntB s sep by omega)
     exfalso
     have h5 : Lib.indexByte (zei (by1 sep) s i) (by1 sep) < 0 := h5
     omega
   · (subst hL; subst hQ; simp only [L2, L3, std] at *; try simp only [syS, reduceCtorEq, Int.reduceToNat, Int.reduceAdd, Int.reduceSub] at *)
     obtain ⟨r1, r2, r3⟩ := zg1 (c := by1 sep) (s := s) (i := i) (show i < cntB s sep by omega)
     obtain ⟨q1, q2⟩ := zdl (by1 sep) s i hi
     have r1 : 0 <= zfw (zc6 s sep i) sep := r1
     have r2 : (zfw (zc6 s sep i) sep).toNat < (zc6 s sep i).length := r2
     have q2 : (zc6 s sep i).length <= s.length := q2
     omega
   · (subst hL; subst hQ; simp only [L2, L3, std] at *; try simp only [syS, reduceCtorEq, Int.reduceToNat, Int.reduceAdd, Int.reduceSub] at *)
     omega
   · (subst hL; subst hQ; simp only [L2, L3, std] at *; try simp only [syS, reduceCtorEq, Int.reduceToNat, Int.reduceAdd, Int.reduceSub] at *)
     obtain ⟨r1, r2, r3⟩ := zg1 (c := by1 sep) (s := s) (i := i) (show i < cntB s sep by omega)
     obtain ⟨q1, q2⟩ := zdl (by1 sep) s i hi
     have r1 : 0 <= zfw (zc6 s sep i) sep := r1
     have r2 : (zfw (zc6 s sep i) sep).toNat < (zc6 s sep i).length := r2
     have q2 : (zc6 s sep i).length <= s.length := q2
     have e1 : (sep.length : Int) = 1 := by rw [p1]; rfl
     omega
   · (cbv; try simp only [syT, true_and, and_true])
     (subst hL; subst hQ; simp only [L2, L3, std] at *; try simp only [syS, reduceCtorEq, Int.reduceToNat, Int.reduceAdd, Int.reduceSub] at *)
     obtain ⟨r1, r2, r3⟩ := zg1 (c := by1 sep) (s := s) (i := i) (show i < cntB s sep by omega)
     obtain ⟨q1, q2⟩ := zdl (by1 sep) s i hi
     have r1 : 0 <= zfw (zc6 s sep i) sep := r1
     have r2 : (zfw (zc6 s sep i) sep).toNat < (zc6 s sep i).length := r2
     have q2 : (zc6 s sep i).length <= s.length := q2
     have e1 : (sep.length : Int) = 1 := by rw [p1]; rfl
     refine ⟨fun k j hk hj => ?_, by omega, ?_, by omega, by omega⟩
     · rw [zv1 _ _ _ _ _ hj]
       congr 1
       by_cases hki : k = i
       · subst hki
         rw [if_pos rfl, zlv, if_pos (by omega), show (zfw (zc6 s sep k) sep + 0 + 9223372036854775808) % 18446744073709551616 - 9223372036854775808 = zfw (zc6 s sep k) sep by omega]
         exact r3.symm
       · rw [if_neg hki, zlv, zlv]
         by_cases hlt : k < i
         · rw [if_pos hlt, if_pos (by omega)]
         · rw [if_neg hlt, if_neg (by omega)]
     · rw [e1, show ((zfw (zc6 s sep i) sep + 1 + 9223372036854775808) % 18446744073709551616 - 9223372036854775808).toNat = (zfw (zc6 s sep i) sep).toNat + 1 by omega]
       rfl
   · (subst hL; subst hQ; simp only [L2, L3, std] at *; try simp only [syS, reduceCtorEq, Int.reduceToNat, Int.reduceAdd, Int.reduceSub] at *)
     omega
   · (subst hL; subst hQ; simp only [L2, L3, std] at *; try simp only [syS, reduceCtorEq, Int.reduceToNat, Int.reduceAdd, Int.reduceSub] at *)
     omega
   · (subst hL; subst hQ; simp only [L2, L3, std] at *; try simp only [syS, reduceCtorEq, Int.reduceToNat, Int.reduceAdd, Int.reduceSub] at *)
     have hi' : i = cntB s sep := by omega
     subst hi'
     rw [show ((cntB s sep : Nat) + 1 + 9223372036854775808 : Int) % 18446744073709551616 - 9223372036854775808 = ((cntB s sep + 1 : Nat) : Int) by omega, Int.toNat_natCast]
     show zfs (.lst 1 (zah (by1 sep) s).length _) _
     rw [zgt, zat]
     refine ⟨rfl, fun k j hk hj => ?_⟩
     rw [zv1 _ _ _ _ _ hj]
     congr 1
     by_cases hki : k = cntB s sep
     · rw [if_pos hki, hki]; exact (zq1 _ _).symm
     · have hk : k < cntB s sep + 1 := hk
       rw [if_neg hki, zlv, if_pos (by omega)]
       rfl
 · (subst hL; subst hQ; simp only [L2, L3, std] at *; try simp only [syS, reduceCtorEq, Int.reduceToNat, Int.reduceAdd, Int.reduceSub] at *)
   exact absurd h3 (by decide)
def ym8 (L : za7) : zbf := (57, fun xs => match xs with | [.str s, .str sep] => some (L zod sep /\ L2 L upto 1000000000 s, yw8 L (L2 L zae s sep)) | _ => none)
theorem ygy : zaz Tryz.prog (ym8 std) := by
 intro xs p r h hp
 dsimp only [ym8] at h |-
 split at h <;> cases h
 try simp only [L2, L3, std] at hp |-
 rename_i s sep
 obtain ⟨p1, p2⟩ : zod sep /\ s.length <= 1000000000 := hp
 refine za6 (T := tt) (S := fun L => zam [yog L]) (lo := noA) (lb := noA) 5 (fn := Tryz.f57) rfl rfl (by kernel_rfl) (by kernel_rfl) rfl zab (za2 ⟨yj6, trivial⟩) (by kernel_rfl) ?_
 (intro L P1 Q1 hL hP hQ; cbv; subst hL; simp only [L2, L3, std, syT]; subst hQ)
 (simp only [syS, reduceCtorEq, Int.reduceToNat, Int.reduceAdd, Int.reduceSub])
 refine ⟨⟨p1, p2⟩, ?_⟩
 show zfs (.lst 1 (yd6 (zae s sep)) _) _
 rw [zgt]
 exact ⟨rfl, fun i j hi hj => rfl⟩
def toS : AV -> List UInt8
 | .str s => s
 | _ => []
def zdz (n : Nat) (get : Nat -> Nat -> AV) : List (List UInt8) := (List.range n).map fun i => toS (get i 0)
def jnZ (sep : List UInt8) (x : AV) : List UInt8 := match x with
 | .lst _ n get => Lib.join (zdz n get) sep
 | _ => []
def ywf (sep : List UInt8) (x : AV) : Prop := match x with
 | .lst 1 n get => (∀ i, i < n -> ∃ s, get i 0 = .str s) /\ n <= 1000000 /\ (Lib.join (zdz n get) sep).length <= 140737488355328
 | .nils => True
 | _ => False
def ywe (L : za7) : zbf := (143, fun xs => match xs with | [x, .str sep] => some (L2 L ywf sep x, .str (L2 L jnZ sep x)) | _ => none)
theorem yue {h : Array Obj} {D : Nat -> Prop} {x y : AV} {vs : Array Value} (hr : RL h D zas [x, y] vs) : ∃ a b, vs = #[a, b] /\ R h D zas x a /\ R h D zas y b := by
 obtain ⟨hl, hr⟩ := hr
 obtain ⟨a, b, ha⟩ : ∃ a b, vs.toList = [a, b] := by
   have hl : vs.toList.length = 2 := by simpa using hl.symm
   match vs.toList, hl with
   | [a, b], _ => exact ⟨a, b, rfl⟩
 have : vs = #[a, b] := by rw [<- Array.toArray_toList (xs := vs), ha]
 subst this
 exact ⟨a, b, rfl, hr 0 x a rfl rfl, hr 1 y b rfl rfl⟩
theorem yns : zaz Tryz.prog (ywe std) := by
 intro xs p r h hp
 dsimp only [ywe] at h |-
 split at h <;> cases h
 try simp only [L2, L3, std] at hp |-
 rename_i x sep
 have hp : ywf sep x := hp
 intro D w vs hD hxs hg
 obtain ⟨a, b, rfl, rx, ry⟩ := yue hxs
 obtain rfl := yac ry
 unfold ze7
 rw [zco (fn := Tryz.f143) rfl (by kernel_rfl) rfl]
 have fin : ∀ (l : List UInt8), l = jnZ sep x -> (∀ w', Below w.heap.size w w' -> ∃ v D', Ending.returned (.string ⟨l.toArray⟩) = .returned v /\ Below w.heap.size w w' /\ (∀ b, D b -> D' b) /\ (∀ b, D' b -> D b \/ (w.heap.size <= b /\ b < w'.heap.size)) /\ R w'.heap D' zas (.str (jnZ sep x)) v) := by
   rintro l rfl w' hw
   exact ⟨_, D, rfl, hw, fun _ h => h, fun b hb => .inl hb, ygr _ _ _ _⟩
 have none_ : jnZ sep x = [] -> ∀ (a : Option Addr) (c : Nat), Calls Tryz.prog 143 #[.slice a 0 c, .string ⟨sep.toArray⟩] w fun e w' => ∃ v D', e = .returned v /\ Below w.heap.size w w' /\ (∀ b, D b -> D' b) /\ (∀ b, D' b -> D b \/ (w.heap.size <= b /\ b < w'.heap.size)) /\ R w'.heap D' zas (.str (jnZ sep x)) v := by
   intro h0 a c
   refine (Tryz.strings_Join_none a c ⟨sep.toArray⟩ w).mono ?_
   rintro e w' ⟨rfl, rfl⟩
   exact fin [] h0.symm _ (Below.refl _ _)
 unfold ywf at hp
 split at hp
 · rename_i n get _
   obtain ⟨h1, h2, h3⟩ := hp
   cases rx with
   | lst0 => exact none_ rfl _ _
   | lst _ _ _ b o cap us hD0 hc hv h1' hr =>
     have hl : (zdz n get).length = n := by rw [zdz, List.length_map, List.length_range]
     have hq : ∀ j x, ((zdz n get).map (fun s : List UInt8 => (⟨s.toArray⟩ : ByteArray)))[j]? = some x -> w.cell? ⟨b, o + j, none⟩ = some (.string x) := by
       intro j x hj
       have hjn : j < n := by
         have := (List.getElem?_eq_some_iff.1 hj).1
         rw [List.length_map, hl] at this
         exact this
       obtain ⟨s, hs⟩ := h1 j hjn
       have r := hr j 0 hjn (by omega)
       rw [hs] at r
       have hv := hv j 0 hjn (by omega)
       rw [yac r, Nat.mul_one, Nat.add_zero] at hv
       rw [zm0, hv]
       have e2 : (zdz n get)[j]? = some s := by rw [zdz, List.getElem?_map, List.getElem?_range hjn, Option.map_some, hs]; rfl
       rw [List.getElem?_map, e2] at hj
       cases hj
       rfl
     have hm : ((zdz n get).map (fun s : List UInt8 => (⟨s.toArray⟩ : ByteArray))).map (·.data.toList) = zdz n get := by
       rw [List.map_map]
       exact List.map_id' _
     have := Tryz.strings_Join b o cap ((zdz n get).map (fun s : List UInt8 => (⟨s.toArray⟩ : ByteArray))) ⟨sep.toArray⟩ w hq (hD b hD0) (by rw [List.length_map, hl]; omega) (by rw [List.length_map, hl]; exact hc) (by rw [hm]; exact h3)
     rw [hm, List.length_map, hl] at this
     refine this.mono ?_
     rintro e w' ⟨rfl, hw⟩
     exact fin _ rfl _ hw
 · cases rx
   exact none_ rfl _ _
 · exact hp.elim
def yil (c : Int) : Bool := decide (97 <= c) && decide (c <= 122)
def yn5 (c : Int) : Bool := yil c || (decide (48 <= c) && decide (c <= 57))
def ycp (c : Int) : Bool := yn5 c || (decide (c = 45) || decide (c = 95))
def zk2 (L : za7) : zbf := (78, fun xs => match xs with
 | [.int .u8 c] => some (True, .bool (L yil c))
 | _ => none)
theorem zld : zaz Tryz.prog (zk2 std) := by
 intro xs p r h hp
 dsimp only [zk2] at h |-
 split at h <;> cases h
 try simp only [L2, L3, std] at hp |-
 rename_i c
 refine za6 (T := tt) (S := noS) (lo := noA) (lb := noA) 5 (fn := Tryz.f78) rfl rfl (by kernel_rfl) (by kernel_rfl) rfl zab (zc4 _) (by kernel_rfl) ?_
 (intro L P1 Q1 hL hP hQ; cbv; subst hL; simp only [L2, L3, std, syT]; subst hQ)
 (simp only [syS, reduceCtorEq, Int.reduceToNat, Int.reduceAdd, Int.reduceSub])
 unfold yil ile
 refine ⟨fun h => by simp [h], fun h => ?_⟩
 rw [decide_eq_false (by omega)]; rfl
def zsl (L : za7) : zbf := (79, fun xs => match xs with
 | [.int .u8 c] => some (True, .bool (L yn5 c))
 | _ => none)
theorem zy1 : zaz Tryz.prog (zsl std) := by
 intro xs p r h hp
 dsimp only [zsl] at h |-
 split at h <;> cases h
 try simp only [L2, L3, std] at hp |-
 rename_i c
 refine za6 (T := tt) (S := fun L => zam [zk2 L]) (lo := noA) (lb := noA) 5 (fn := Tryz.f79) rfl rfl (by kernel_rfl) (by kernel_rfl) rfl zab (za2 ⟨zld, trivial⟩) (by kernel_rfl) ?_
 (intro L P1 Q1 hL hP hQ; cbv; subst hL; simp only [L2, L3, std, syT]; subst hQ)
 (simp only [syS, reduceCtorEq, Int.reduceToNat, Int.reduceAdd, Int.reduceSub])
 unfold yn5 ile
 refine ⟨fun h => by simp [h], fun h => ⟨fun h2 => by simp [h, h2], fun h2 => ?_⟩⟩
 rw [h, decide_eq_false (show ¬ 48 <= c by omega)]; rfl
def zwr (f : Int -> Bool) (s : List UInt8) : Bool := s.all fun b => f (b.toNat : Int)
def zp0 (f : Int -> Bool) (s : List UInt8) (i : Nat) : Prop := i <= s.length /\ ∀ k, k < i -> f (za8 s k) = true
def toC (s : List UInt8) (i : Nat) : Nat := s.length - i
theorem zf2 {s : List UInt8} {i : Nat} (h : i < s.length) : za8 s i = (s[i].toNat : Int) := by
 rw [za8, List.getD_eq_getElem?_getD, List.getElem?_eq_getElem h]; rfl
theorem yea (f : Int -> Bool) (s : List UInt8) : zp0 f s 0 := ⟨Nat.zero_le _, fun k hk => by omega⟩
theorem znf {f : Int -> Bool} {s : List UInt8} {i : Nat} (h : zp0 f s i) (hi : i < s.length) (hf : f (za8 s i) = true) : zp0 f s (i + 1) :=
 ⟨hi, fun k hk => by
   by_cases e : k = i
   · rw [e]; exact hf
   · exact h.2 k (by omega)⟩
theorem zi9 {f : Int -> Bool} {s : List UInt8} {i : Nat} (h : zp0 f s i) (hi : s.length <= i) : zwr f s = true := by
 unfold zwr
 rw [List.all_eq_true]
 intro b hb
 obtain ⟨k, hk, rfl⟩ := List.getElem_of_mem hb
 have := h.2 k (by omega)
 rw [zf2 hk] at this
 exact this
theorem zpg {f : Int -> Bool} {s : List UInt8} {i : Nat} (hi : i < s.length) (hf : f (za8 s i) = false) : zwr f s = false := by
 unfold zwr
 rw [List.all_eq_false]
 refine ⟨s[i], List.getElem_mem hi, ?_⟩
 rw [zf2 hi] at hf
 simp [hf]
def zqb (s : List UInt8) : Bool := !decide (s = []) && (!decide (32 < s.length) && (yil (za8 s 0) && zwr ycp s))
def ycn (L : za7) : zbf := (62, fun xs => match xs with
 | [.str s] => some (True, .bool (L zqb s))
 | _ => none)
def yw4 (L : za7) (s : List UInt8) : Nat -> St -> Option Ann := fun id st => match id with
 | 0 => some ⟨Nat, fun i => [(19, .int .i64 (L zac i))], fun i => [], [0, 18], [], fun i => L (L2 L zp0 ycp s) i, fun i => L2 L toC s i⟩
 | _ => none
theorem yco : zaz Tryz.prog (ycn std) := by
 intro xs p r h hp
 dsimp only [ycn] at h |-
 split at h <;> cases h
 try simp only [L2, L3, std] at hp |-
 rename_i s
 refine za5 (T := tt) (S := fun L => zam [zk2 L, zsl L]) (lo := fun L => yw4 L s) (lb := noA) 5 (fn := Tryz.f62) (xs := fun L => [.str s]) rfl rfl (by kernel_rfl) (by kernel_rfl) rfl zab (za2 ⟨zld, zy1, trivial⟩) (by kernel_rfl) ?_
 intro L P' Q' hL hP hQ
 (cbv; try simp only [syT, true_and, and_true])
 refine ⟨fun h => ?_, fun h1 => ⟨fun h => ?_, fun h2 => ⟨?_, fun h => ?_, fun h3 => ⟨⟨0, ?_⟩, fun i hi => ?_⟩⟩⟩⟩
 · (subst hL; subst hQ; simp only [L2, L3, std] at *; try simp only [syS, reduceCtorEq, Int.reduceToNat, Int.reduceAdd, Int.reduceSub] at *)
   rw [zqb, decide_eq_true h]; rfl
 · (subst hL; subst hQ; simp only [L2, L3, std] at *; try simp only [syS, reduceCtorEq, Int.reduceToNat, Int.reduceAdd, Int.reduceSub] at *)
   rw [zqb, decide_eq_true (show 32 < s.length by omega)]; simp
 · (subst hL; subst hQ; simp only [L2, L3, std] at *; try simp only [syS, reduceCtorEq, Int.reduceToNat, Int.reduceAdd, Int.reduceSub] at *)
   have : s.length ≠ 0 := fun h => h1 (List.eq_nil_of_length_eq_zero h)
   omega
 · (subst hL; subst hQ; simp only [L2, L3, std] at *; try simp only [syS, reduceCtorEq, Int.reduceToNat, Int.reduceAdd, Int.reduceSub] at *)
   rw [zqb, show yil (za8 s 0) = false from h]; simp
 · (cbv; try simp only [syT, true_and, and_true])
   (subst hL; subst hQ; simp only [L2, L3, std] at *; try simp only [syS, reduceCtorEq, Int.reduceToNat, Int.reduceAdd, Int.reduceSub] at *)
   exact yea _ _
 · have hi2 : zp0 ycp s i := by
     have h := hi
     rw [hL] at h
     exact h
   clear hi
   obtain ⟨hi3, hi4⟩ := hi2
   have g1 : ¬ s = [] := by
     rw [hL] at h1
     have h : seq s [] = false := h1
     simpa [seq] using h
   have g2 : ¬ 32 < s.length := by
     rw [hL] at h2
     have h : ilt 32 (s.length : Int) = false := h2
     rw [zju] at h
     omega
   have g3 : yil (za8 s 0) = true := by
     rw [hL] at h3
     have h : (!yil (za8 s 0)) = false := h3
     simpa using h
   have g4 : zqb s = zwr ycp s := by
     rw [zqb, decide_eq_false g1, decide_eq_false g2, g3]; rfl
   clear h1 h2 h3
   (cbv; try simp only [syT, true_and, and_true])
   have hcb : L (L zgk s) (L zac i) = za8 s i := by subst hL; rfl
   rw [hcb]
   clear hcb
   have step : i < s.length -> ycp (za8 s i) = true -> zp0 ycp s (i + 1) /\ toC s (i + 1) + 1 <= toC s i := fun h1 h2 => ⟨znf ⟨hi3, hi4⟩ h1 h2, by show s.length - (i + 1) + 1 <= s.length - i; omega⟩
   have bad : i < s.length -> ycp (za8 s i) = false -> zqb s = false := fun h1 h2 => by rw [g4]; exact zpg h1 h2
   generalize za8 s i = c at step bad |-
   have hlt2 : L (L ilt (L zac i)) (L slen s) = true -> i < s.length := by
     intro h
     rw [hL] at h
     have h : ilt (i : Int) (s.length : Int) = true := h
     rw [zfv] at h
     omega
   refine ⟨fun hlt => ⟨?_, fun h1 => ⟨?_, fun h2 => ⟨?_, fun h3 => ?_, fun h3 => ⟨i + 1, ?_⟩⟩, fun h2 => ⟨i + 1, ?_⟩⟩, fun h1 => ⟨i + 1, ?_⟩⟩, fun hge => ?_⟩
   · (subst hL; subst hQ; simp only [L2, L3, std] at *; try simp only [syS, reduceCtorEq, Int.reduceToNat, Int.reduceAdd, Int.reduceSub] at *)
     omega
   · (subst hL; subst hQ; simp only [L2, L3, std] at *; try simp only [syS, reduceCtorEq, Int.reduceToNat, Int.reduceAdd, Int.reduceSub] at *)
     omega
   · (subst hL; subst hQ; simp only [L2, L3, std] at *; try simp only [syS, reduceCtorEq, Int.reduceToNat, Int.reduceAdd, Int.reduceSub] at *)
     omega
   · have hli := hlt2 hlt
     (subst hL; subst hQ; simp only [L2, L3, std] at *; try simp only [syS, reduceCtorEq, Int.reduceToNat, Int.reduceAdd, Int.reduceSub] at *)
     rw [bad hli (by simp [ycp, h1, h2, h3])]
   · have hli := hlt2 hlt
     (cbv; try simp only [syT, true_and, and_true])
     (subst hL; subst hQ; simp only [L2, L3, std] at *; try simp only [syS, reduceCtorEq, Int.reduceToNat, Int.reduceAdd, Int.reduceSub] at *)
     obtain ⟨k1, k2⟩ := step hli (by simp [ycp, h3])
     exact ⟨by omega, k1, k2⟩
   · have hli := hlt2 hlt
     (cbv; try simp only [syT, true_and, and_true])
     (subst hL; subst hQ; simp only [L2, L3, std] at *; try simp only [syS, reduceCtorEq, Int.reduceToNat, Int.reduceAdd, Int.reduceSub] at *)
     obtain ⟨k1, k2⟩ := step hli (by simp [ycp, h2])
     exact ⟨by omega, k1, k2⟩
   · have hli := hlt2 hlt
     (cbv; try simp only [syT, true_and, and_true])
     (subst hL; subst hQ; simp only [L2, L3, std] at *; try simp only [syS, reduceCtorEq, Int.reduceToNat, Int.reduceAdd, Int.reduceSub] at *)
     obtain ⟨k1, k2⟩ := step hli (by simp [ycp, h1])
     exact ⟨by omega, k1, k2⟩
   · (subst hL; subst hQ; simp only [L2, L3, std] at *; try simp only [syS, reduceCtorEq, Int.reduceToNat, Int.reduceAdd, Int.reduceSub] at *)
     rw [g4, zi9 ⟨hi3, hi4⟩ (by omega)]
def yt7 (c : Int) : Bool := yn5 c || decide (c = 45)
def yd9 (s : List UInt8) : Int := za8 s (s.length - 1)
def ze8 (s : List UInt8) : Bool := !decide (s = []) && (!decide (32 < s.length) && (!decide (za8 s 0 = 45) && (!decide (yd9 s = 45) && zwr yt7 s)))
def ygd (c : Int) : Int := if 65 <= c /\ c <= 90 then c + 32 else c
def lowB (b : UInt8) : UInt8 := UInt8.ofNat (ygd (b.toNat : Int)).toNat
def zf7 (s : List UInt8) : List UInt8 := s.map lowB
def ygc (s : List UInt8) (i k : Nat) : Int := if k < i then ygd (za8 s k) else za8 s k
theorem zlc {s : List UInt8} {i k : Nat} : ygc s (i + 1) k = if k = i then ygd (za8 s i) else ygc s i k := by
 unfold ygc
 by_cases e : k = i
 · rw [if_pos e, if_pos (by omega), e]
 · rw [if_neg e]
   by_cases h : k < i
   · rw [if_pos (by omega), if_pos h]
   · rw [if_neg (by omega), if_neg h]
theorem yii {s : List UInt8} {i : Nat} (h : s.length <= i) : zbc s.length (fun k => (AV.int .u8 (ygc s i (0 + k))).toI) = zf7 s := by
 apply List.ext_getElem
 · simp [zbc, zf7]
 · intro k h1 h2
   have hk : k < s.length := by simpa [zf7] using h2
   simp only [zbc, zf7, List.getElem_map, List.getElem_range, AV.toI, Nat.zero_add]
   rw [ygc, if_pos (by omega), zf2 hk]
   rfl
def leN8 (s : List UInt8) (i : Nat) : Prop := i <= s.length
def zt1 (L : za7) : zbf := (48, fun xs => match xs with
 | [.str s] => some (L2 L upto 1000000000 s, .str (L zf7 s))
 | _ => none)
def ysn (L : za7) (s : List UInt8) : Nat -> St -> Option Ann := fun id st => match id with
 | 0 => some ⟨Nat, fun i => [(10, .int .i64 (L zac i)), (3, .sl 900 1 0 (L lenN s)), (8, .sl 900 1 0 (L lenN s))], fun i => [(900, .row 5 1 (L lenN s) (fun k _ => .int .u8 (L3 L ygc s i k)))], [9], [], fun i => L2 L leN8 s i, fun i => L2 L toC s i⟩
 | _ => none
theorem zyf : zaz Tryz.prog (zt1 std) := by
 intro xs p r h hp
 dsimp only [zt1] at h |-
 split at h <;> cases h
 try simp only [L2, L3, std] at hp |-
 rename_i s
 have hz : s.length <= 1000000000 := hp
 refine za5 (T := tt) (S := fun L => noS L) (lo := fun L => ysn L s) (lb := noA) 5 (fn := Tryz.f48) (xs := fun L => [.str s]) rfl rfl (by kernel_rfl) (by kernel_rfl) rfl zab (zc4 _) (by kernel_rfl) ?_
 intro L P' Q' hL hP hQ
 (cbv; try simp only [syT, true_and, and_true])
 refine ⟨⟨0, ?_⟩, fun i hi => ?_⟩
 · (cbv; try simp only [syT, true_and, and_true])
   (subst hL; subst hQ; simp only [L2, L3, std] at *; try simp only [syS, reduceCtorEq, Int.reduceToNat, Int.reduceAdd, Int.reduceSub] at *)
   exact ⟨fun i j hi hj => by rw [ygc, if_neg (by omega)], Nat.zero_le _⟩
 · have hi2 : i <= s.length := by
     have h := hi
     rw [hL] at h
     exact h
   clear hi
   (cbv; try simp only [syT, true_and, and_true])
   have hc : L (L (L ygc s) i) (L (L Nat.add 0) (L Int.toNat (L zac i))) = za8 s i := by
     subst hL
     show ygc s i (0 + i) = _
     rw [Nat.zero_add, ygc, if_neg (by omega)]
   rw [hc]
   refine ⟨fun hlt => ⟨?_, fun h1 => ⟨fun h2 => ⟨?_, ?_, i + 1, ?_⟩, fun h2 => ⟨i + 1, ?_⟩⟩, fun h1 => ⟨i + 1, ?_⟩⟩, fun hge => ?_⟩
   · (subst hL; subst hQ; simp only [L2, L3, std] at *; try simp only [syS, reduceCtorEq, Int.reduceToNat, Int.reduceAdd, Int.reduceSub] at *)
     omega
   · (subst hL; subst hQ; simp only [L2, L3, std] at *; try simp only [syS, reduceCtorEq, Int.reduceToNat, Int.reduceAdd, Int.reduceSub] at *)
     omega
   · (subst hL; subst hQ; simp only [L2, L3, std] at *; try simp only [syS, reduceCtorEq, Int.reduceToNat, Int.reduceAdd, Int.reduceSub] at *)
     omega
   · (cbv; try simp only [syT, true_and, and_true])
     try simp only [hc]
     (subst hL; subst hQ; simp only [L2, L3, std] at *; try simp only [syS, reduceCtorEq, Int.reduceToNat, Int.reduceAdd, Int.reduceSub] at *)
     refine ⟨fun k j hk hj => ?_, by omega, by show i + 1 <= s.length; omega, by show s.length - (i + 1) + 1 <= s.length - i; omega⟩
     rw [yvx _ _ _ _ _ _ hj, zlc]
     by_cases e : k = i
     · rw [if_pos e, if_pos e, ygd, if_pos ⟨h1, h2⟩]
       congr 1
       omega
     · rw [if_neg e, if_neg e]
   · (cbv; try simp only [syT, true_and, and_true])
     (subst hL; subst hQ; simp only [L2, L3, std] at *; try simp only [syS, reduceCtorEq, Int.reduceToNat, Int.reduceAdd, Int.reduceSub] at *)
     refine ⟨fun k j hk hj => ?_, by omega, by show i + 1 <= s.length; omega, by show s.length - (i + 1) + 1 <= s.length - i; omega⟩
     rw [zlc]
     by_cases e : k = i
     · rw [if_pos e, ygd, if_neg (by omega), e, hc]
     · rw [if_neg e]
   · (cbv; try simp only [syT, true_and, and_true])
     (subst hL; subst hQ; simp only [L2, L3, std] at *; try simp only [syS, reduceCtorEq, Int.reduceToNat, Int.reduceAdd, Int.reduceSub] at *)
     refine ⟨fun k j hk hj => ?_, by omega, by show i + 1 <= s.length; omega, by show s.length - (i + 1) + 1 <= s.length - i; omega⟩
     rw [zlc]
     by_cases e : k = i
     · rw [if_pos e, ygd, if_neg (by omega), e, hc]
     · rw [if_neg e]
   · subst hQ; subst hL
     have hge : ilt (i : Int) (s.length : Int) = false := hge
     rw [zju] at hge
     refine ⟨⟨by show 0 + s.length <= s.length; omega, fun k hk => ⟨_, rfl⟩⟩, ?_⟩
     rw [zoz]
     exact yii (by omega)
def ygb (s : List UInt8) (i : Nat) : List UInt8 := zf7 (s.take i)
theorem zlb {s : List UInt8} {i : Nat} (h : i < s.length) : ygb s (i + 1) = ygb s i ++ [UInt8.ofNat (ygd (za8 s i)).toNat] := by
 rw [ygb, List.take_succ_eq_append_getElem h, zf2 h, ygb]
 unfold zf7 lowB
 rw [List.map_append]; rfl
theorem yih {s : List UInt8} {i : Nat} (h : s.length <= i) : ygb s i = zf7 s := by rw [ygb, List.take_of_length_le h]
def ymq (L : za7) (s : List UInt8) : Nat -> St -> Option Ann := fun id st => match id with
 | 0 => some ⟨Nat, fun i => [(4, .int .i64 (L zac i)), (3, .str (L2 L ygb s i))], fun i => [], [0], [], fun i => L2 L leN8 s i, fun i => L2 L toC s i⟩
 | _ => none
end Sy
end Go.Proofs.YtogpolfhcbgcbaaGreatDoor
namespace Go.Proofs.YtogpolfhcbgcbaaGreatDoor
open Go Go.RowKit Go.Sort Go.Lib
set_option maxRecDepth 100000
set_option linter.unusedSimpArgs false
set_option linter.unusedVariables false
set_option maxHeartbeats 6400000 in
theorem yta (u : Nat) (hu : u < 18446744073709551616) (w : World) (htab : Lib.TabIs Tryz.prog w "internal/strconv.uint64pow10" .u64 Lib.pow10Tab) :
   Calls Tryz.prog 154 #[.int .u64 u, .int .i64 10] w fun e w' => e = .returned (.string ⟨(Lib.decDigits u).toArray⟩) /\ Below w.heap.size w w' := by
 by_cases hs : u < 100
 · have hw : IntKind.i64.wrap (u : Int) = (u : Int) := by rw [IntKind.wrap_i64]; omega
   go_enter Tryz.func154, Tryz.ntmps154
   go_wp2_with (go_at_call 162; refine (Tryz.internal_strconv_small u hs _).mono ?_; rintro e w' ⟨rfl, rfl⟩)
   go_ret
   exact ⟨rfl, Below.refl _ _⟩
 · have hu1 : 1 <= u := by omega
   have hnd20 : Lib.nDigits u <= 20 := by have := Lib.numDigits_eq u hu1 hu; split at this <;> omega
   have hal : Tryz.prog.arrayLen 191 = 24 := by kernel_rfl
   have hsl1 : ∀ W, (Instr.sliceAt 191 (.pointer (some ⟨w.heap.size, 0, none⟩)) none (some (.int .i64 (Lib.nDigits u : Int))) none).run Tryz.prog W = .ok (.slice (some ⟨w.heap.size, 0, none⟩) (Lib.nDigits u) 24) W := fun W => by
     rw [run_sliceAt_array_h W 191 ⟨w.heap.size, 0, none⟩ (by simp [Program.arrayLen, Program.elem, Tryz.underlying191]) .i64 (Lib.nDigits u : Int) (by omega) (by rw [hal]; omega)]
     go_simp
     first | done | omega
   have hH0 := Lib.holds_zero0 w 191 (Lib.nDigits u) (by omega)
   have hfmt := Tryz.internal_strconv_formatBase10 w.heap.size 0 24 u (Array.replicate (Lib.nDigits u) 0) (w.alloc (.cells Lib.zeros24 191)) hH0 (by rw [Array.size_replicate]; exact Lib.lt_pow_nDigits u) hu (by rw [Array.size_replicate]; omega)
   rw [Array.size_replicate] at hfmt
   have HH0 := Lib.hid hH0
   clear hH0 hal
   go_enter Tryz.func154, Tryz.ntmps154
   go_wp2_with (first
     | (go_at_call 163; refine (Tryz.internal_strconv_numDigits u hu1 hu _ (Lib.tabIs_alloc htab _)).mono ?_; rintro e w' ⟨rfl, rfl⟩))
   refine hfmt.mono ?_
   rintro e w' ⟨rfl, k, v', dk, rfl, hF⟩
   have hcv : (convert 94 9 (.slice (some ⟨w.heap.size, 0, none⟩) (Lib.nDigits u) 24)).run Tryz.prog ((putRow (fun (b : UInt8) => Value.int .u8 (b.toNat : Int)) (w.alloc (.cells Lib.zeros24 191)) w.heap.size 0 dk).drewN k) = .ok (.string ⟨(Lib.decDigits u).toArray⟩) ((putRow (fun (b : UInt8) => Value.int .u8 (b.toNat : Int)) (w.alloc (.cells Lib.zeros24 191)) w.heap.size 0 dk).drewN k) := by
     have h := run_convert_bytes_back (P := Tryz.prog) ((putRow (fun (b : UInt8) => Value.int .u8 (b.toNat : Int)) (w.alloc (.cells Lib.zeros24 191)) w.heap.size 0 dk).drewN k) 94 9 5 ⟨w.heap.size, 0, none⟩ 24 (Lib.decDigits u) Tryz.underlying94 Tryz.underlying5 Tryz.underlying9 (fun j hj => by
       rw [Lib.row_is_numeral hF j hj, Lib.add_plain, World.cell?_drewN]
       exact cell?_putRow (fun (b : UInt8) => Value.int .u8 (b.toNat : Int)) _ w.heap.size 0 _ dk HH0.out (by rw [hF.size, Array.size_replicate]) j (by rw [hF.size]; rw [Lib.decDigits_length] at hj; exact hj))
     rw [Lib.decDigits_length] at h
     exact h
   go_wp2
   go_ret
   obtain ⟨os, eo⟩ := Lib.fin_at w (.cells Lib.zeros24 191) dk k 0
   refine ⟨rfl, ?_⟩
   have := Lib.below_grow w.heap.size w (Nat.le_refl _) k os
   rw [<- eo] at this
   exact this
theorem yoo (u : Nat) (hu : u < 18446744073709551616) (w : World) (htab : Lib.TabIs Tryz.prog w "internal/strconv.uint64pow10" .u64 Lib.pow10Tab) :
   Calls Tryz.prog 149 #[.int .u64 u, .int .i64 10] w fun e w' => e = .returned (.string ⟨(Lib.decDigits u).toArray⟩) /\ Below w.heap.size w w' := by
 go_enter Tryz.func149, Tryz.ntmps149
 go_wp2_with (go_at_call 154; refine (yta u hu _ htab).mono ?_; rintro e w' ⟨rfl, hw⟩)
 go_ret
 exact ⟨rfl, hw⟩
end Go.Proofs.YtogpolfhcbgcbaaGreatDoor
namespace Go.Proofs.YtogpolfhcbgcbaaGreatDoor
namespace Sy
open Go Go.RowKit
set_option maxRecDepth 100000
set_option linter.unusedSimpArgs false
set_option linter.unusedVariables false
theorem zgh {P : Program} {f : FuncId} {fn : Func} {c : Code} {xs : List AV} {args : Array Value} {r : AV} (hf : P.funcs[f]? = some fn) (hb : fn.body = some c) (hn : (fn.name == "runtime.NumGoroutine") = false)
   (ha : ∀ h D vs, RL h D zas xs vs -> vs = args) (h : ∀ w, GOk w -> Calls P f args w fun e w' => ∃ v, e = .returned v /\ Below w.heap.size w w' /\ ∀ h D, R h D zas r v) : za9 P f xs r := by
 intro D w vs hD hxs hg
 have := ha _ _ _ hxs
 subst this
 unfold ze7
 rw [zco hf hn hb]
 refine (h w hg).mono ?_
 rintro e w' ⟨v, rfl, hw, hv⟩
 exact ⟨v, D, rfl, hw, fun _ h => h, fun b hb => .inl hb, hv _ _⟩
theorem yxe {x y z : AV} {v u t : Value} (hx : zro x v) (hy : zro y u) (hz : zro z t) : ∀ h D vs, RL h D zas [x, y, z] vs -> vs = #[v, u, t] := by
 intro h D vs ⟨hl, hr⟩
 obtain ⟨a, b, c, ha⟩ : ∃ a b c, vs.toList = [a, b, c] := by
   have hl : vs.toList.length = 3 := by simpa using hl.symm
   match vs.toList, hl with
   | [a, b, c], _ => exact ⟨a, b, c, rfl⟩
 have : vs = #[a, b, c] := by rw [<- Array.toArray_toList (xs := vs), ha]
 subst this
 rw [hx _ _ a (hr 0 x a rfl rfl), hy _ _ b (hr 1 y b rfl rfl), hz _ _ c (hr 2 z c rfl rfl)]
def zcx (n : Int) : List UInt8 := Lib.decDigits n.toNat
def zkg (n : Int) : Prop := 0 <= n /\ n < 18446744073709551616
def yon (L : za7) : zbf := (149, fun xs => match xs with | [.int .u64 n, .int .i64 b] => some (L2 L (fun n b : Int => zkg n /\ b = 10) n b, .str (L zcx n)) | _ => none)
theorem yjc : zaz Tryz.prog (yon std) := by
 intro xs p r h hp
 dsimp only [yon] at h |-
 split at h <;> cases h
 try simp only [L2, L3, std] at hp |-
 rename_i n b
 obtain ⟨⟨h0, h1⟩, h2⟩ : zkg n /\ b = 10 := hp
 subst h2
 obtain ⟨u, rfl⟩ := zn1 h0
 refine zgh (fn := Tryz.f149) rfl rfl (by kernel_rfl) (zzf (zdx _ _) (zdx _ _)) (fun w hg => (yoo u (by omega) w hg.2.1).mono ?_)
 rintro e w' ⟨rfl, hw⟩
 exact ⟨_, rfl, hw, fun h D => ygr h D _ _⟩
def yho (s : List UInt8) : Int := match Lib.parseUintB 64 s with | .ok u => u | .syntax => 0 | .range => 18446744073709551615
def yg8 (s : List UInt8) : Bool := match Lib.parseUintB 64 s with | .ok _ => true | _ => false
def yn0 (L : za7) : zbf := (148, fun xs => match xs with | [.str s, .int .i64 b, .int .i64 z] => some (L3 L (fun (s : List UInt8) (b z : Int) => s.length <= 140737488355328 /\ b = 10 /\ z = 64) s b z, .tup [.int .u64 (L yho s), .ifb (L yg8 s)]) | _ => none)
theorem yaa {x y : AV} {v u : Value} {h : Array Obj} {D : Nat -> Prop} (hx : R h D zas x v) (hy : R h D zas y u) : R h D zas (.tup [x, y]) (.tuple #[v, u]) := by
 refine .tup _ _ rfl ?_
 intro i z t hz ht
 match i with
 | 0 => simp at hz ht; subst hz ht; exact hx
 | 1 => simp at hz ht; subst hz ht; exact hy
 | i + 2 => simp at hz
theorem yhn : zaz Tryz.prog (yn0 std) := by
 intro xs p r h hp
 dsimp only [yn0] at h |-
 split at h <;> cases h
 try simp only [L2, L3, std] at hp |-
 rename_i s b z
 obtain ⟨h0, h1, h2⟩ : s.length <= 140737488355328 /\ b = 10 /\ z = 64 := hp
 subst h1; subst h2
 have hs : (⟨s.toArray⟩ : ByteArray).size = s.length := by show s.toArray.size = s.length; simp
 have hd : (⟨s.toArray⟩ : ByteArray).data.toList = s := rfl
 refine zgh (fn := Tryz.f148) rfl rfl (by kernel_rfl) (yxe (zcp _) (zdx _ _) (zdx _ _)) (fun w hg => ?_)
 obtain ⟨-, -, ⟨t2, p2, g2⟩, ⟨t3, p3, g3⟩, -⟩ := hg
 cases hq : Lib.parseUintB 64 s with
 | ok u =>
   refine (Tryz.strconv_ParseUint_10_at64_ok ⟨s.toArray⟩ (by rw [hs]; omega) u (by rw [hd]; exact hq) w).mono ?_
   rintro e w' ⟨rfl, hw⟩
   refine ⟨_, rfl, ?_, fun h D => yaa ?_ ?_⟩
   · rcases hw with rfl | rfl
     · exact Below.refl _ _
     · exact Lib.bytesWorld_below _ _ _
   · show R h D zas (.int .u64 (yho s)) _
     rw [yho, hq]; exact .int _ _
   · show R h D zas (.ifb (yg8 s)) _
     rw [yg8, hq]; exact .ifn
 | «syntax» =>
   refine (Tryz.strconv_ParseUint_10_at64_syntax_var ⟨s.toArray⟩ (by rw [hs]; omega) (by rw [hd]; exact hq) t2 p2 w g2).mono ?_
   rintro e w' ⟨N, rfl, hN, hc, hw⟩
   refine ⟨_, rfl, hw, fun h D => yaa ?_ ?_⟩
   · show R h D zas (.int .u64 (yho s)) _
     rw [yho, hq]; exact .int _ _
   · show R h D zas (.ifb (yg8 s)) _
     rw [yg8, hq]; exact .ifs _ _
 | range =>
   refine (Tryz.strconv_ParseUint_10_at64_range_var ⟨s.toArray⟩ (by rw [hs]; omega) (by rw [hd]; exact hq) t3 p3 w g3).mono ?_
   rintro e w' ⟨N, rfl, hN, hc, hw⟩
   refine ⟨_, rfl, hw, fun h D => yaa ?_ ?_⟩
   · show R h D zas (.int .u64 (yho s)) _
     rw [yho, hq]; exact .int _ _
   · show R h D zas (.ifb (yg8 s)) _
     rw [yg8, hq]; exact .ifs _ _
def zcr (n : Int) : Prop := 0 <= n /\ n < 18446744073709551616
def zb6 (n : Int) : List UInt8 := zdg n.toNat
def zko (L : za7) : zbf := (137, fun xs => match xs with | [.int .u64 n] => some (L zcr n, .str (L zb6 n)) | _ => none)
theorem zix : zaz Tryz.prog (zko std) := by
 intro xs p r h hp
 dsimp only [zko] at h |-
 split at h <;> cases h
 try simp only [L2, L3, std] at hp |-
 rename_i n
 obtain ⟨h0, h1⟩ : zcr n := hp
 obtain ⟨k, rfl⟩ := zn1 h0
 exact ze6 (fn := Tryz.f137) rfl rfl (by kernel_rfl) (yxf (zdx _ _)) (fun h D => ygr h D _ _) (fun w => yaq k w (by omega))
theorem zzd : za9 Tryz.prog 141 [] (.bool true) := by
 refine za6 (T := tt) (S := fun L => zam [zko L, yhk L]) (lo := noA) (lb := noA) 5 (fn := Tryz.f141) rfl rfl (by kernel_rfl) (by kernel_rfl) rfl zab (za2 ⟨zix, zus, trivial⟩) (by kernel_rfl) ?_
 (intro L P1 Q1 hL hP hQ; cbv; subst hL; simp only [L2, L3, std, syT]; subst hQ)
 (simp only [syS, reduceCtorEq, Int.reduceToNat, Int.reduceAdd, Int.reduceSub])
 exact ⟨by unfold zcr; omega, fun _ => ⟨by unfold ymz; omega, by decide +kernel⟩, by rw [zb6, show (300 : Int).toNat = 300 from rfl, zgl (by decide), zbd (by decide)]; rfl⟩
def tru (f : Nat) : zbf := (f, fun xs => match xs with | [] => some (True, .bool true) | _ => none)
theorem zbw {P : Program} {f : Nat} (h : za9 P f [] (.bool true)) : zaz P (tru f) := by
 intro xs p r h' hp
 match xs with
 | [] => cases h'; exact h
 | x :: xs => cases h'
theorem zns : za9 Tryz.prog 123 [] (.bool true) := by
 refine za6 (T := tt) (S := fun L => zam [tru 141]) (lo := noA) (lb := noA) 5 (fn := Tryz.f123) rfl rfl (by kernel_rfl) (by kernel_rfl) rfl zab (za2 ⟨zbw zzd, trivial⟩) (by kernel_rfl) ?_
 (intro L P1 Q1 hL hP hQ; cbv; subst hL; simp only [L2, L3, std, syT]; subst hQ)
 (simp only [syS, reduceCtorEq, Int.reduceToNat, Int.reduceAdd, Int.reduceSub])
def isD (c : UInt8) : Bool := decide (48 <= c.toNat) && decide (c.toNat <= 57)
def dcS (a : Nat) (c : UInt8) : Nat := a * 10 + (c.toNat - 48)
def zmj (a : Nat) (l : List UInt8) : Nat := l.foldl dcS a
theorem zk8 (a : Nat) : zmj a [] = a := by unfold zmj; exact List.foldl_nil
theorem zic (a : Nat) (c : UInt8) (r : List UInt8) : zmj a (c :: r) = zmj (a * 10 + (c.toNat - 48)) r := by unfold zmj; exact List.foldl_cons ..
theorem zwg (l : List UInt8) (c : UInt8) (a : Nat) : zmj a (l ++ [c]) = zmj a l * 10 + (c.toNat - 48) := by
 unfold zmj
 rw [List.foldl_append, List.foldl_cons, List.foldl_nil, dcS]
theorem ztr : ∀ (l : List UInt8) (a : Nat), a <= zmj a l
 | [], a => by rw [zk8]; exact Nat.le_refl _
 | c :: r, a => by rw [zic]; exact Nat.le_trans (by omega) (ztr r _)
theorem zha {c : UInt8} : isD c = true ↔ 48 <= c.toNat /\ c.toNat <= 57 := by
 simp [isD]
theorem ykt : ∀ (l : List UInt8) (a : Nat), l.all isD = true -> a < 18446744073709551616 -> Lib.parseUintM 18446744073709551615 a l = if zmj a l < 18446744073709551616 then .ok (zmj a l) else .range
 | [], a, _, ha => by
   rw [zk8, if_pos ha, Lib.parseUintM]
 | c :: r, a, h, ha => by
   rw [List.all_cons, Bool.and_eq_true] at h
   obtain ⟨h1, h2⟩ := h
   rw [zha] at h1
   rw [Lib.parseUintM, if_pos h1, zic]
   have hge := ztr r (a * 10 + (c.toNat - 48))
   split
   · rw [if_neg (by omega)]
   · split
     · rw [if_neg (by omega)]
     · exact ykt r _ h2 (by omega)
theorem yn1 {l : List UInt8} (h : l.all isD = true) (h0 : l ≠ []) : Lib.parseUintB 64 l = if zmj 0 l < 18446744073709551616 then .ok (zmj 0 l) else .range := by
 rw [Lib.parseUintB, if_neg h0]
 exact ykt l 0 h (by decide)
def zsu (s : List UInt8) : Bool := s.all isD && !(s == []) && (!(zgk s 0 == 48) || s == [48])
def zrt (s : List UInt8) : Int := if zsu s = true then (if zmj 0 s < 18446744073709551616 then 0 else 7) else 4
def wnV (s : List UInt8) : Int := if zrt s = 0 then zmj 0 s else 0
def yp9 (L : za7) : zbf := (142, fun xs => match xs with | [.int .u64 n] => some (L zkg n, .str (L zcx n)) | _ => none)
theorem yjp : zaz Tryz.prog (yp9 std) := by
 intro xs p r h hp
 dsimp only [yp9] at h |-
 split at h <;> cases h
 try simp only [L2, L3, std] at hp |-
 rename_i n
 have hn : zkg n := hp
 refine za6 (T := tt) (S := fun L => zam [yon L]) (lo := noA) (lb := noA) 5 (fn := Tryz.f142) rfl rfl (by kernel_rfl) (by kernel_rfl) rfl zab (za2 ⟨yjc, trivial⟩) (by kernel_rfl) ?_
 (intro L P1 Q1 hL hP hQ; cbv; subst hL; simp only [L2, L3, std, syT]; subst hQ)
 refine ⟨⟨hn, trivial⟩, ?_⟩
 rw [zoz]
def yhx (s : List UInt8) (i : Nat) : Prop := i <= s.length /\ (s.take i).all isD = true
theorem yop (a b c d : Int) : zfs (.tup [.int .u64 a, .int .i64 b]) (.tup [.int .u64 c, .int .i64 d]) = (c = a /\ d = b) := by
 simp [sySet]
theorem zog {s : List UInt8} (h : zsu s = false) : 0 = wnV s /\ 4 = zrt s := by
 have e : zrt s = 4 := by rw [zrt, if_neg (by rw [h]; decide)]
 exact ⟨by rw [wnV, if_neg (by rw [e]; decide)], e.symm⟩
theorem ycl {s : List UInt8} {i : Nat} (hi : i < s.length) (h : zgk s (zac i) < 48 \/ 57 < zgk s (zac i)) : zsu s = false := by
 have : s.all isD = false := by
   rw [List.all_eq_false]
   refine ⟨s[i], List.getElem_mem hi, ?_⟩
   rw [zha]
   rw [zgk, zac, Int.toNat_natCast, List.getD_eq_getElem?_getD, List.getElem?_eq_getElem hi, Option.getD_some] at h
   omega
 rw [zsu, this]; rfl
theorem ync {s : List UInt8} {i i' : Nat} (hi' : i' = i + 1) (h : yhx s i) (hi : i < s.length) (h1 : ¬ zgk s (zac i) < 48) (h2 : ¬ 57 < zgk s (zac i)) : yhx s i' := by
 subst hi'
 refine ⟨hi, ?_⟩
 rw [List.take_succ_eq_append_getElem hi, List.all_append, h.2, List.all_cons, List.all_nil]
 rw [zgk, zac, Int.toNat_natCast, List.getD_eq_getElem?_getD, List.getElem?_eq_getElem hi, Option.getD_some] at h1 h2
 have : isD s[i] = true := zha.2 (by omega)
 rw [this]; rfl
theorem zv8 {s : List UInt8} {i : Nat} (h : yhx s i) (hi : ¬ i < s.length) : s.all isD = true := by
 have := h.2
 rw [List.take_of_length_le (by omega)] at this
 exact this
theorem zk0 {s : List UInt8} (h : s.all isD = true) (h0 : s ≠ []) (h1 : zgk s 0 ≠ 48 \/ s = [48]) : ((!yg8 s) = true -> 0 = wnV s /\ 7 = zrt s) /\ ((!yg8 s) = false -> yho s = wnV s /\ 0 = zrt s) := by
 have ho : zsu s = true := by
   rw [zsu, h]
   rcases h1 with h1 | h1
   · simp [h0, h1]
   · subst h1; rfl
 have hB := yn1 h h0
 rw [wnV, zrt, if_pos ho, yg8, yho, hB]
 by_cases hl : zmj 0 s < 18446744073709551616
 · rw [if_pos hl, if_pos hl]
   exact ⟨fun h => by simp at h, fun _ => ⟨rfl, rfl⟩⟩
 · rw [if_neg hl, if_neg hl]
   exact ⟨fun _ => ⟨rfl, rfl⟩, fun h => by simp at h⟩
def nuA (L : za7) (s : List UInt8) : Nat -> St -> Option Ann := fun id st => match id with
 | 0 => some ⟨Nat, fun i => [(9, .int .i64 (L zac i))], fun _ => [], [0, 8], [], fun i => L2 L yhx s i, fun i => L2 L (fun (s : List UInt8) (i : Nat) => s.length - i) s i⟩
 | _ => none
def zzx (L : za7) : zbf := (140, fun xs => match xs with | [.str s] => some (L2 L upto 1000000 s, .tup [.int .u64 (L wnV s), .int .i64 (L zrt s)]) | _ => none)
theorem zg8 {n k : Nat} (h : ilt (zac n) (zac k) = true) : n < k := by
 have := of_decide_eq_true h
 unfold zac at this; omega
theorem zi7 {n k : Nat} (h : ilt (zac n) (zac k) = false) : ¬ n < k := by
 have := of_decide_eq_false h
 unfold zac at this; omega
theorem ydj {n k : Nat} (h : n < k) : inR (zac n) (zac k) = true := by rw [zmg]; exact ⟨Int.natCast_nonneg _, by unfold zac; omega⟩
theorem yi2 {n n' : Nat} (h : n' = n + 1) (h2 : n < 100000000) : zhj .i64 (zac n) 1 = zac n' := by
 subst h; unfold zac; rw [zhj, zio]; omega
theorem zqa {s : List UInt8} (h : seq s [] = false) : s ≠ [] := by
 intro e; subst e; exact absurd h (by decide)
theorem ysb {s : List UInt8} (h : seq s [] = true) : zsu s = false := by
 have : s = [] := by simpa [seq] using h
 subst this; rfl
theorem ys8 {s : List UInt8} (h : seq s [] = false) : inR 0 (slen s) = true := by
 have := zqa h
 rw [zmg, slen]
 have : 0 < s.length := List.length_pos_iff.2 this
 omega
theorem ys7 {s : List UInt8} (h : (!seq s [48]) = false) : s = [48] := by
 have : seq s [48] = true := by simpa using h
 simpa [seq] using this
theorem ykw {s : List UInt8} (h : ieq (zgk s 0) 48 = false) : zgk s 0 ≠ 48 := by
 simpa [ieq] using h
theorem ysa {s : List UInt8} (h : ieq (zgk s 0) 48 = true) (h2 : (!seq s [48]) = true) : zsu s = false := by
 have h1 : zgk s 0 = 48 := by simpa [ieq] using h
 have h3 : ¬ s = [48] := by
   intro e; subst e; exact absurd h2 (by decide)
 rw [zsu, h1]
 simp [h3]
theorem zzy : zaz Tryz.prog (zzx std) := by
 intro xs p r h hp
 dsimp only [zzx] at h |-
 split at h <;> cases h
 try simp only [L2, L3, std] at hp |-
 rename_i s
 have hs : s.length <= 1000000 := hp
 refine za6 (T := tt) (S := fun L => zam [yn0 L]) (lo := fun L => nuA L s) (lb := noA) 5 (fn := Tryz.f140) rfl rfl (by kernel_rfl) (by kernel_rfl) rfl zab (za2 ⟨yhn, trivial⟩) (by kernel_rfl) ?_
 obtain ⟨n0, hn0⟩ : ∃ n : Nat, n = 0 := ⟨_, rfl⟩
 intro L P' Q' hL hP hQ
 (cbv; try simp only [syT, true_and, and_true])
 refine ⟨⟨n0, ?_⟩, fun i hi => ?_⟩
 · (cbv; try simp only [syT, true_and, and_true])
   subst hL; subst hQ; subst hn0
   exact ⟨rfl, Nat.zero_le _, by rw [List.take_zero]; rfl⟩
 obtain ⟨i', hi'⟩ : ∃ i' : Nat, i' = i + 1 := ⟨_, rfl⟩
 (cbv; try simp only [syT, true_and, and_true])
 refine ⟨fun h1 => ⟨?_, fun h2 => ?_, fun h2 => ⟨?_, fun h3 => ?_, fun h3 => ⟨i', ?_⟩⟩⟩, fun h1 => ⟨fun h2 => ?_, fun h2 => ⟨?_, fun h3 => ⟨fun h4 => ?_, fun h4 => ⟨?_, fun h5 => ?_, fun h5 => ?_⟩⟩, fun h3 => ⟨?_, fun h5 => ?_, fun h5 => ?_⟩⟩⟩⟩
 all_goals (try (cbv; try simp only [syT, true_and, and_true]))
 all_goals (subst hL; subst hQ)
 all_goals (try rw [yop])
 · exact ydj (k := s.length) (zg8 h1)
 · exact zog (ycl (zg8 (k := s.length) h1) (.inl (of_decide_eq_true h2)))
 · exact ydj (k := s.length) (zg8 h1)
 · exact zog (ycl (zg8 (k := s.length) h1) (.inr (of_decide_eq_true h3)))
 · have hlt : i < s.length := zg8 (k := s.length) h1
   refine ⟨yi2 hi' (by omega), ync hi' hi hlt (of_decide_eq_false h2) (of_decide_eq_false h3), ?_⟩
   show s.length - i' + 1 <= s.length - i
   omega
 · exact zog (ysb h2)
 · exact ys8 h2
 · exact zog (ysa h3 h4)
 · exact ⟨by omega, rfl, rfl⟩
 · exact (zk0 (zv8 hi (zi7 (k := s.length) h1)) (zqa h2) (.inr (ys7 h4))).1 h5
 · exact (zk0 (zv8 hi (zi7 (k := s.length) h1)) (zqa h2) (.inr (ys7 h4))).2 h5
 · exact ⟨by omega, rfl, rfl⟩
 · exact (zk0 (zv8 hi (zi7 (k := s.length) h1)) (zqa h2) (.inl (ykw h3))).1 h5
 · exact (zk0 (zv8 hi (zi7 (k := s.length) h1)) (zqa h2) (.inl (ykw h3))).2 h5
theorem ya8 {N : Nat} (h : (N : Int) < 18446744073709551616) : N < 18446744073709551616 := by omega
theorem yty {n : Nat} (h : n < 10) : (UInt8.ofNat (48 + n)).toNat = 48 + n := by
 rw [UInt8.toNat_ofNat']; omega
theorem ylk (u : Nat) : (Lib.decDigits u).all isD = true /\ Lib.decDigits u ≠ [] /\ zmj 0 (Lib.decDigits u) = u /\ (1 <= u -> zgk (Lib.decDigits u) 0 ≠ 48) := by
 induction u using Nat.strongRecOn with
 | _ u ih =>
   by_cases h : u < 10
   · rw [Lib.decDigits_one h]
     have hc := yty h
     refine ⟨?_, by simp, ?_, fun h1 => ?_⟩
     · rw [List.all_cons, List.all_nil, Bool.and_true, zha, hc]; omega
     · rw [zic, zk8, hc]; omega
     · show ((UInt8.ofNat (48 + u)).toNat : Int) ≠ 48
       rw [hc]; omega
   · obtain ⟨a1, a2, a3, a4⟩ := ih (u / 10) (by omega)
     have hc := yty (show u % 10 < 10 by omega)
     rw [Lib.decDigits, dif_neg h]
     refine ⟨?_, by simp, ?_, fun _ => ?_⟩
     · rw [List.all_append, a1, List.all_cons, List.all_nil, Bool.and_true, Bool.true_and, zha, hc]; omega
     · rw [zwg, a3, hc]; omega
     · have := a4 (by omega)
       have h0 : 0 < (Lib.decDigits (u / 10)).length := List.length_pos_iff.2 a2
       rw [zgk, List.getD_eq_getElem?_getD] at this |-
       rw [List.getElem?_append_left (by simpa using h0)]
       exact this
theorem zev {n : Int} (h : zkg n) : zrt (zcx n) = 0 /\ wnV (zcx n) = n := by
 obtain ⟨u, rfl⟩ := zn1 h.1
 have hu : u < 18446744073709551616 := ya8 h.2
 obtain ⟨a1, a2, a3, a4⟩ := ylk u
 have ho : zsu (zcx (u : Int)) = true := by
   rw [zcx, Int.toNat_natCast, zsu, a1]
   by_cases h0 : 1 <= u
   · simp [a2, a4 h0]
   · have : u = 0 := by omega
     subst this
     rw [Lib.decDigits_one (by decide)]; rfl
 have e : zrt (zcx (u : Int)) = 0 := by
   rw [zrt, if_pos ho, zcx, Int.toNat_natCast, a3, if_pos hu]
 refine ⟨e, ?_⟩
 rw [wnV, if_pos e, zcx, Int.toNat_natCast, a3]
theorem ylj : ∀ (n : Nat) (s : List UInt8), s.length = n -> s.all isD = true -> s ≠ [] -> (zgk s 0 ≠ 48 \/ s = [48]) -> Lib.decDigits (zmj 0 s) = s
 | 0, s, hl, _, h0, _ => absurd (List.eq_nil_of_length_eq_zero hl) h0
 | n + 1, s, hl, ha, h0, hz => by
   obtain ⟨t, c, rfl⟩ : ∃ t c, s = t ++ [c] := ⟨s.dropLast, s.getLast h0, (List.dropLast_concat_getLast h0).symm⟩
   rw [List.all_append, List.all_cons, List.all_nil, Bool.and_true, Bool.and_eq_true] at ha
   obtain ⟨ht, hc⟩ := ha
   rw [zha] at hc
   rw [zwg]
   have back : UInt8.ofNat (48 + (c.toNat - 48)) = c := by
     apply UInt8.toNat_inj.1
     rw [UInt8.toNat_ofNat']
     have := c.toNat_lt
     omega
   by_cases htn : t = []
   · subst htn
     rw [zk8, Nat.zero_mul, Nat.zero_add, Lib.decDigits_one (by omega), back]; rfl
   · have hlt : t.length = n := by simpa using hl
     obtain ⟨x, r, rfl⟩ := List.exists_cons_of_ne_nil htn
     have hx : zgk (x :: r) 0 ≠ 48 := by
       rcases hz with hz | hz
       · exact hz
       · have := congrArg List.length hz
         simp at this
     have h1 : 1 <= zmj 0 (x :: r) := by
       rw [zic]
       refine Nat.le_trans ?_ (ztr r _)
       rw [List.all_cons, Bool.and_eq_true, zha] at ht
       have : x.toNat ≠ 48 := fun e => hx (by show ((x.toNat : Nat) : Int) = 48; omega)
       omega
     have ih := ylj n (x :: r) hlt ht htn (.inl hx)
     generalize zmj 0 (x :: r) = v at h1 ih |-
     rw [Lib.decDigits, dif_neg (by omega), show (v * 10 + (c.toNat - 48)) / 10 = v by omega, show (v * 10 + (c.toNat - 48)) % 10 = c.toNat - 48 by omega, ih, back]
theorem yw3 {s : List UInt8} (h : zsu s = true) : s.all isD = true /\ s ≠ [] /\ (zgk s 0 ≠ 48 \/ s = [48]) := by
 simp only [zsu, Bool.and_eq_true, Bool.not_eq_true', Bool.or_eq_true, beq_iff_eq, beq_eq_false_iff_ne, ne_eq] at h
 exact ⟨h.1.1, h.1.2, h.2⟩
theorem zgw {s : List UInt8} (h : zrt s = 0) : zcx (wnV s) = s /\ zkg (wnV s) := by
 have ho : zsu s = true := by
   cases hq : zsu s with
   | true => rfl
   | false => rw [zrt, hq, if_neg (by decide)] at h; exact absurd h (by decide)
 have hl : zmj 0 s < 18446744073709551616 := by
   rw [zrt, if_pos ho] at h
   split at h
   · assumption
   · exact absurd h (by decide)
 obtain ⟨h1, h2, h3⟩ := yw3 ho
 rw [wnV, if_pos h, zcx, Int.toNat_natCast, ylj _ s rfl h1 h2 h3]
 exact ⟨rfl, by unfold zkg; omega⟩
theorem zlw {n : Int} (h : zkg n) : (zcx n).length <= 20 := by
 obtain ⟨u, rfl⟩ := zn1 h.1
 have hu : u < 18446744073709551616 := ya8 h.2
 rw [zcx, Int.toNat_natCast, Lib.decDigits_length]
 by_cases h0 : u = 0
 · subst h0; rw [Lib.nDigits_small (by decide)]; decide
 · have := Lib.numDigits_eq u (by omega) hu
   split at this <;> omega
structure Pl where
 a : Int
 b : Int
 c : Int
 d : Int
 p : Int
 deriving DecidableEq
def plA (L : za7) (x : Pl) : AV := .agg [.int .u8 (L Pl.a x), .int .u8 (L Pl.b x), .int .u8 (L Pl.c x), .int .u8 (L Pl.d x), .int .u16 (L Pl.p x)]
def yuw (L : za7) (a b c d p : Int) : Pl := L (L (L (L (L Pl.mk a) b) c) d) p
def zzn (x : Pl) : Prop := (0 <= x.a /\ x.a <= 255) /\ (0 <= x.b /\ x.b <= 255) /\ (0 <= x.c /\ x.c <= 255) /\ (0 <= x.d /\ x.d <= 255) /\ 0 <= x.p /\ x.p <= 65535
def ub (n : Int) : UInt8 := UInt8.ofNat n.toNat
def plB (x : Pl) : List UInt8 := [ub x.a, ub x.b, ub x.c, ub x.d, ub (x.p / 256), ub (x.p % 256)]
def plT (x : Pl) : List UInt8 := zcx x.a ++ 46 :: (zcx x.b ++ 46 :: (zcx x.c ++ 46 :: (zcx x.d ++ 58 :: zcx x.p)))
theorem yr8 (n : Nat) : UInt8.ofNat n = UInt8.ofNat (n % 256) := by
 apply UInt8.toNat_inj.1
 rw [UInt8.toNat_ofNat', UInt8.toNat_ofNat']; omega
theorem yvt {p : Int} (h0 : 0 <= p) (h1 : p <= 65535) : putZ p 2 = [ub (p / 256), ub (p % 256)] := by
 obtain ⟨n, rfl⟩ := zn1 h0
 show zsg n 2 = _
 rw [zsg, zsg, zsg, Nat.pow_one, Nat.pow_zero, Nat.div_one, yr8 n]
 show _ = [UInt8.ofNat ((n : Int) / 256).toNat, UInt8.ofNat ((n : Int) % 256).toNat]
 rw [show ((n : Int) / 256).toNat = n / 256 by omega, show ((n : Int) % 256).toNat = n % 256 by omega]
theorem yr7 {n : Int} (h0 : 0 <= n) (h1 : n <= 255) : ((ub n).toNat : Int) = n := by
 rw [ub, UInt8.toNat_ofNat']; omega
def zpd (L : za7) : zbf := (117, fun xs => match xs with
 | [.agg [.int .u8 a, .int .u8 b, .int .u8 c, .int .u8 d, .int .u16 p]] => some (L zzn (yuw L a b c d p), .str (L plB (yuw L a b c d p)))
 | _ => none)
theorem znk : zaz Tryz.prog (zpd std) := by
 intro xs p r h hp
 dsimp only [zpd] at h |-
 split at h <;> cases h
 try simp only [L2, L3, std] at hp |-
 rename_i a b c d p
 have hp : zzn ⟨a, b, c, d, p⟩ := hp
 refine za6 (T := tt) (S := fun L => zam [yhk L]) (lo := noA) (lb := noA) 5 (fn := Tryz.f117) rfl rfl (by kernel_rfl) (by kernel_rfl) rfl zab (za2 ⟨zus, trivial⟩) (by kernel_rfl) ?_
 (intro L P1 Q1 hL hP hQ; cbv; subst hL; simp only [L2, L3, std, syT]; subst hQ)
 (simp only [syS, reduceCtorEq, Int.reduceToNat, Int.reduceAdd, Int.reduceSub])
 obtain ⟨-, -, -, -, h1, h2⟩ := hp
 simp only at h1 h2
 have h2 : p <= 65535 := h2
 rw [show p % 18446744073709551616 = p by omega, yvt h1 h2]
 exact ⟨fun i _ => ⟨_, rfl⟩, ⟨by omega, by omega, by decide, by decide⟩, by simp [zbc], rfl⟩
def ipL (x : Pl) : List Int := [x.a, x.b, x.c, x.d]
def ipT (x : Pl) (j : Nat) : List UInt8 := zcx (zk1 (ipL x) j)
def le4s (i : Nat) : Prop := i <= 4
def to4 (i : Nat) : Nat := 4 - i
def txtA (L : za7) (x : Pl) : Nat -> St -> Option Ann := fun id st => match id with
 | 0 => some ⟨Nat, fun i => [(8, .int .i64 (L zac i)), (3, .sl 900 1 0 i)], fun i => [(900, .row 9 1 i (fun j _ => .str (L2 L ipT x j)))], [1, 7], [1], fun i => L le4s i, fun i => L to4 i⟩
 | _ => none
theorem zyk {x : Pl} (h : zzn x) (j : Nat) : zkg (zk1 (ipL x) j) := by
 obtain ⟨h1, h2, h3, h4, -⟩ := h
 match j with
 | 0 => exact ⟨h1.1, by have := h1.2; show x.a < _; omega⟩
 | 1 => exact ⟨h2.1, by have := h2.2; show x.b < _; omega⟩
 | 2 => exact ⟨h3.1, by have := h3.2; show x.c < _; omega⟩
 | 3 => exact ⟨h4.1, by have := h4.2; show x.d < _; omega⟩
 | j + 4 => exact ⟨Int.le_refl 0, (by decide : (0 : Int) < 18446744073709551616)⟩
theorem ywd (x : Pl) : Lib.join [zcx x.a, zcx x.b, zcx x.c, zcx x.d] [46] = zcx x.a ++ 46 :: (zcx x.b ++ 46 :: (zcx x.c ++ 46 :: zcx x.d)) := by
 simp [Lib.join, List.intercalate]
def zsi (L : za7) : zbf := (124, fun xs => match xs with
 | [.agg [.int .u8 a, .int .u8 b, .int .u8 c, .int .u8 d, .int .u16 p]] => some (L zzn (yuw L a b c d p), .str (L plT (yuw L a b c d p)))
 | _ => none)
theorem zxx : zaz Tryz.prog (zsi std) := by
 intro xs p r h hp
 dsimp only [zsi] at h |-
 split at h <;> cases h
 try simp only [L2, L3, std] at hp |-
 rename_i a b c d p
 have hp : zzn ⟨a, b, c, d, p⟩ := hp
 refine za6 (T := tt) (S := fun L => zam [yp9 L, ywe L]) (lo := fun L => txtA L ⟨a, b, c, d, p⟩) (lb := noA) 5 (fn := Tryz.f124) rfl rfl (by kernel_rfl) (by kernel_rfl) rfl zab (za2 ⟨yjp, yns, trivial⟩) (by kernel_rfl) ?_
 intro L P' Q' hL hP hQ
 (cbv; try simp only [syT, true_and, and_true])
 refine ⟨⟨0, ?_⟩, fun i hi => ?_⟩
 · (cbv; try simp only [syT, true_and, and_true])
   (subst hL; subst hQ; simp only [L2, L3, std] at *; try simp only [syS, reduceCtorEq, Int.reduceToNat, Int.reduceAdd, Int.reduceSub] at *)
   exact Nat.zero_le _
 · (cbv; try simp only [syT, true_and, and_true])
   have hi4 : i <= 4 := by
     have hi' := hi
     rw [hL] at hi'
     exact hi'
   refine ⟨fun h1 => ⟨?_, ?_, ?_, i + 1, ?_⟩, fun h1 => ⟨?_, ?_, ?_, ?_, ?_⟩⟩
   · (subst hL; subst hQ; simp only [L2, L3, std] at *; try simp only [syS, reduceCtorEq, Int.reduceToNat, Int.reduceAdd, Int.reduceSub] at *)
     omega
   · (subst hL; subst hQ; simp only [L2, L3, std] at *; try simp only [syS, reduceCtorEq, Int.reduceToNat, Int.reduceAdd, Int.reduceSub] at *)
     have := zyk hp i
     show zkg (_ % _)
     rw [show zk1 [a, b, c, d] i % 18446744073709551616 = zk1 (ipL ⟨a, b, c, d, p⟩) i from Int.emod_eq_of_lt this.1 this.2]
     exact this
   · (subst hL; subst hQ; simp only [L2, L3, std] at *; try simp only [syS, reduceCtorEq, Int.reduceToNat, Int.reduceAdd, Int.reduceSub] at *)
     omega
   · (cbv; try simp only [syT, true_and, and_true])
     (subst hL; subst hQ; simp only [L2, L3, std] at *; try simp only [syS, reduceCtorEq, Int.reduceToNat, Int.reduceAdd, Int.reduceSub] at *)
     refine ⟨fun k j hk hj => ?_, by omega, by show i + 1 <= 4; omega, by show 4 - (i + 1) + 1 <= 4 - i; omega⟩
     by_cases hk' : k < i
     · rw [zu2 hk', show k - i = 0 by omega]; rfl
     · have : k = i := by omega
       subst this
       rw [yfs (by omega), show k - k = 0 by omega]
       match j, hj with
       | 0, _ =>
         have := zyk hp k
         show AV.str (zcx (zk1 [a, b, c, d] k % 18446744073709551616)) = .str (zcx (zk1 (ipL ⟨a, b, c, d, p⟩) k))
         rw [show zk1 [a, b, c, d] k % 18446744073709551616 = zk1 (ipL ⟨a, b, c, d, p⟩) k from Int.emod_eq_of_lt this.1 this.2]
   all_goals
     (subst hL; subst hQ; simp only [L2, L3, std] at *; try simp only [syS, reduceCtorEq, Int.reduceToNat, Int.reduceAdd, Int.reduceSub] at *)
     have h4 : i = 4 := by omega
     subst h4
     have l1 := zlw (zyk hp 0)
     have l2 := zlw (zyk hp 1)
     have l3 := zlw (zyk hp 2)
     have l4 := zlw (zyk hp 3)
     have hp5 : 0 <= p /\ p <= 65535 := hp.2.2.2.2
     have l5 := zlw (n := p) ⟨hp5.1, by omega⟩
     have hj : jnZ [46] (.lst 1 4 fun i x => AV.str (ipT ⟨a, b, c, d, p⟩ i)) = zcx a ++ 46 :: (zcx b ++ 46 :: (zcx c ++ 46 :: zcx d)) := ywd ⟨a, b, c, d, p⟩
     have hm : p % 18446744073709551616 = p := by omega
     simp only [zk1, ipL, List.getD_cons_zero, List.getD_cons_succ] at l1 l2 l3 l4
     have hl : (zcx a ++ 46 :: (zcx b ++ 46 :: (zcx c ++ 46 :: zcx d))).length <= 100 := by
       simp only [List.length_append, List.length_cons]; omega
   · refine ⟨fun k hk => ⟨_, rfl⟩, by omega, ?_⟩
     have : Lib.join (zdz 4 fun i x => AV.str (ipT ⟨a, b, c, d, p⟩ i)) [46] = zcx a ++ 46 :: (zcx b ++ 46 :: (zcx c ++ 46 :: zcx d)) := hj
     rw [this]; omega
   · rw [hj, List.length_singleton]; omega
   · rw [hm]; exact ⟨hp5.1, by omega⟩
   · rw [hj, hm, List.length_append, List.length_singleton]; omega
   · rw [hj, hm]
     show _ = plT ⟨a, b, c, d, p⟩
     simp [plT]
theorem yku {x : Pl} {a b c d p : Int} (h : x = ⟨a, b, c, d, p⟩) : fits1 (plA std x) (.agg [.int .u8 a, .int .u8 b, .int .u8 c, .int .u8 d, .int .u16 p]) := by
 subst h
 show fits1 (.agg [.int .u8 a, .int .u8 b, .int .u8 c, .int .u8 d, .int .u16 p]) _
 simp only [zd7, zdt, and_self]
def zov (s : List UInt8) : List (List UInt8) := zae (yjv s [58]) [46]
def zsk (s : List UInt8) : List UInt8 := yew s [58]
def zma (s : List UInt8) (k : Nat) : Int := wnV (zec (zov s) k)
def yg7 (s : List UInt8) (k : Nat) : Int := zrt (zec (zov s) k)
def prtO (s : List UInt8) (k : Nat) : Prop := yg7 s k = 0 /\ zma s k <= 255
def yuo (s : List UInt8) : Prop := yu0 s [58] = true /\ (zov s).length = 4 /\ (∀ k, k < 4 -> prtO s k) /\ zrt (zsk s) = 0 /\ 1 <= wnV (zsk s) /\ wnV (zsk s) <= 65535
open Classical in
noncomputable def spE (s : List UInt8) : Int := if yuo s then 0 else 4
noncomputable def spP (s : List UInt8) : Pl := if spE s = 0 then ⟨zma s 0, zma s 1, zma s 2, zma s 3, wnV (zsk s)⟩ else ⟨0, 0, 0, 0, 0⟩
theorem zps {c : UInt8} : ∀ {s : List UInt8} {x : List UInt8}, x ∈ zah c s -> x.length <= s.length
 | [], x, h => by simp [zah] at h; subst h; exact Nat.le_refl _
 | y :: s, x, h => by
   have ih := fun x h => zps (c := c) (s := s) (x := x) h
   unfold zah at h
   split at h
   · rcases List.mem_cons.1 h with rfl | h
     · exact Nat.zero_le _
     · have := ih x h; simp; omega
   · split at h
     · rename_i z r hs
       rcases List.mem_cons.1 h with rfl | h
       · have := ih z (by rw [hs]; simp); simp; omega
       · have := ih x (by rw [hs]; simp [h]); simp; omega
     · rename_i hs; exact absurd hs (zkk _ _)
theorem yck (c : UInt8) (s : List UInt8) (k : Nat) : (zec (zah c s) k).length <= s.length := by
 rw [zec, List.getD_eq_getElem?_getD]
 cases h : (zah c s)[k]? with
 | none => exact Nat.zero_le _
 | some x => exact zps (List.mem_of_getElem? h)
theorem ys9 (s : List UInt8) : 0 <= wnV s := by
 unfold wnV
 split
 · exact Int.natCast_nonneg _
 · exact Int.le_refl _
theorem yju (s sep : List UInt8) : (yjv s sep).length <= s.length := by
 unfold yjv
 split
 · exact Nat.le_refl _
 · rw [List.length_take]; omega
theorem yjt (s sep : List UInt8) : (yew s sep).length <= s.length := by
 unfold yew
 split
 · exact Nat.zero_le _
 · rw [List.length_drop]; omega
theorem zkl {s : List UInt8} (h : ¬ yuo s) : fits1 (plA std (spP s)) (.agg [.int .u8 0, .int .u8 0, .int .u8 0, .int .u8 0, .int .u16 0]) /\ 4 = spE s := by
 have e : spE s = 4 := if_neg h
 exact ⟨yku (if_neg (by rw [e]; decide)), e.symm⟩
noncomputable def yn6 (L : za7) : zbf := (122, fun xs => match xs with
 | [.str s] => some (L2 L upto 1000000 s, .tup [plA L (L spP s), .int .i64 (L spE s)])
 | _ => none)
def ipZ (s : List UInt8) (i k : Nat) : Int := if k < i then zma s k else 0
def ys2 (s : List UInt8) (i : Nat) : Prop := i <= 4 /\ ∀ k, k < i -> prtO s k
def parA (L : za7) (s : List UInt8) : Nat -> St -> Option Ann := fun id st => match id with
 | 0 => some ⟨Nat, fun i => [(30, .int .i64 (L zac i)), (2, .ref 2 0), (4, .ref 4 0)],
     fun i => [(2, .box 25 [.int .u8 0, .int .u8 0, .int .u8 0, .int .u8 0, .int .u16 0]), (4, .box 25 [.int .u8 (L (L2 L ipZ s i) 0), .int .u8 (L (L2 L ipZ s i) 1), .int .u8 (L (L2 L ipZ s i) 2), .int .u8 (L (L2 L ipZ s i) 3), .int .u16 0])], [8, 28, 29], [],
     fun i => L2 L ys2 s i, fun i => L to4 i⟩
 | _ => none
theorem yhr : zaz Tryz.prog (yn6 std) := by
 intro xs p r h hp
 dsimp only [yn6] at h |-
 split at h <;> cases h
 try simp only [L2, L3, std] at hp |-
 rename_i s
 have hp : s.length <= 1000000 := hp
 refine za6 (T := tt) (S := fun L => zam [ypf L, ym8 L, zzx L]) (lo := fun L => parA L s) (lb := noA) 5 (fn := Tryz.f122) rfl rfl (by kernel_rfl) (by kernel_rfl) rfl zab (za2 ⟨yjs, ygy, zzy, trivial⟩) (by kernel_rfl) ?_
 intro L P' Q' hL hP hQ
 have hcl := yju s [58]
 have hbl := yjt s [58]
 (cbv; try simp only [syT, true_and, and_true])
 refine ⟨?_, ?_, fun h => ?_, fun h1 => ⟨fun h => ?_, fun h2 => ⟨⟨0, ?_⟩, fun i hi => ?_⟩⟩⟩
 · (subst hL; subst hQ; simp only [L2, L3, std] at *; try simp only [syS, reduceCtorEq, Int.reduceToNat, Int.reduceAdd, Int.reduceSub] at *)
   exact ⟨rfl, by show s.length <= _; omega⟩
 · (subst hL; subst hQ; simp only [L2, L3, std] at *; try simp only [syS, reduceCtorEq, Int.reduceToNat, Int.reduceAdd, Int.reduceSub] at *)
   exact ⟨rfl, by show (yjv s [58]).length <= _; omega⟩
 · (subst hL; subst hQ; simp only [L2, L3, std] at *; try simp only [syS, reduceCtorEq, Int.reduceToNat, Int.reduceAdd, Int.reduceSub] at *)
   exact zkl fun x => by rw [x.1] at h; cases h
 · (subst hL; subst hQ; simp only [L2, L3, std] at *; try simp only [syS, reduceCtorEq, Int.reduceToNat, Int.reduceAdd, Int.reduceSub] at *)
   exact zkl fun x => h (by have := x.2.1; show ((zov s).length : Int) = 4; omega)
 · (cbv; try simp only [syT, true_and, and_true])
   (subst hL; subst hQ; simp only [L2, L3, std] at *; try simp only [syS, reduceCtorEq, Int.reduceToNat, Int.reduceAdd, Int.reduceSub] at *)
   exact ⟨rfl, rfl, rfl, rfl, Nat.zero_le _, fun k hk => by omega⟩
 · cbv at hi
   (cbv; try simp only [syT, true_and, and_true])
   have hpl : ∀ k, (zec (zov s) k).length <= 1000000 := fun k => Nat.le_trans (yck _ _ k) (by omega)
   refine ⟨fun h3 => ⟨?_, ?_, fun h4 => ?_, fun h4 => ⟨fun h5 => ?_, fun h5 => ⟨?_, i + 1, ?_⟩⟩⟩, fun h3 => ⟨?_, fun h4 => ⟨fun h5 => ⟨fun h6 => ?_, fun h6 => ?_⟩, fun h5 => ?_⟩, fun h4 => ?_⟩⟩
   · (subst hL; subst hQ; simp only [L2, L3, std] at *; try simp only [syS, reduceCtorEq, Int.reduceToNat, Int.reduceAdd, Int.reduceSub] at *)
     omega
   · (subst hL; subst hQ; simp only [L2, L3, std] at *; try simp only [syS, reduceCtorEq, Int.reduceToNat, Int.reduceAdd, Int.reduceSub] at *)
     exact hpl i
   · (subst hL; subst hQ; simp only [L2, L3, std] at *; try simp only [syS, reduceCtorEq, Int.reduceToNat, Int.reduceAdd, Int.reduceSub] at *)
     exact zkl fun x => h4 (x.2.2.1 i (by omega)).1
   · (subst hL; subst hQ; simp only [L2, L3, std] at *; try simp only [syS, reduceCtorEq, Int.reduceToNat, Int.reduceAdd, Int.reduceSub] at *)
     have h5 : 255 < zma s i := h5
     exact zkl fun x => by have := (x.2.2.1 i (by omega)).2; omega
   · (subst hL; subst hQ; simp only [L2, L3, std] at *; try simp only [syS, reduceCtorEq, Int.reduceToNat, Int.reduceAdd, Int.reduceSub] at *)
     omega
   · (cbv; try simp only [syT, true_and, and_true])
     (subst hL; subst hQ; simp only [L2, L3, std] at *; try simp only [syS, reduceCtorEq, Int.reduceToNat, Int.reduceAdd, Int.reduceSub] at *)
     have h4 : yg7 s i = 0 := h4
     have h5 : zma s i <= 255 := h5
     have h0 : 0 <= zma s i := ys9 _
     have hm : wnV (zec (zae (yjv s [58]) [46]) i) % 256 = zma s i := by
       show zma s i % 256 = zma s i
       omega
     rw [hm]
     have cell : ∀ k, (cond (zap i k) (zma s i) (ipZ s i k)) = ipZ s (i + 1) k := by
       intro k
       by_cases hik : i = k
       · subst hik
         rw [za4, ipZ, ipZ, if_pos (show i < i + 1 by omega)]; rfl
       · rw [zai hik]
         show ipZ s i k = _
         rw [ipZ, ipZ]
         by_cases hlt : k < i
         · rw [if_pos hlt, if_pos (by omega)]
         · rw [if_neg hlt, if_neg (by omega)]
     have hi4 : i < 4 := by omega
     refine ⟨cell 3, cell 2, cell 1, cell 0, by omega, ⟨by omega, fun k hk => ?_⟩, by show 4 - (i + 1) + 1 <= 4 - i; omega⟩
     by_cases hki : k = i
     · rw [hki]; exact ⟨h4, h5⟩
     · exact hi.2 k (by omega)
   · (subst hL; subst hQ; simp only [L2, L3, std] at *; try simp only [syS, reduceCtorEq, Int.reduceToNat, Int.reduceAdd, Int.reduceSub] at *)
     show (yew s [58]).length <= 1000000
     omega
   all_goals
     (subst hL; subst hQ; simp only [L2, L3, std] at *; try simp only [syS, reduceCtorEq, Int.reduceToNat, Int.reduceAdd, Int.reduceSub] at *)
     have hi4 : i = 4 := by have := hi.1; omega
     subst hi4
   · have hok : yuo s := ⟨h1, by show yd6 (zov s) = 4; have h2 : ((yd6 (zov s) : Nat) : Int) = 4 := h2; omega, hi.2, h4, h5, h6⟩
     have hE : spE s = 0 := if_pos hok
     refine ⟨yku ?_, hE.symm⟩
     rw [spP, if_pos hE, show wnV (yew s [58]) % 65536 = wnV (yew s [58]) by omega]
     rfl
   · exact zkl fun x => by have := x.2.2.2.2.2; have h6 : 65535 < wnV (zsk s) := h6; omega
   · exact zkl fun x => by have := x.2.2.2.2.1; have h5 : wnV (zsk s) < 1 := h5; omega
   · exact zkl fun x => h4 x.2.2.2.1
end Sy
end Go.Proofs.YtogpolfhcbgcbaaGreatDoor
namespace Go.Proofs.YtogpolfhcbgcbaaGreatDoor
namespace Sy
open Go Go.RowKit
set_option maxRecDepth 100000
set_option linter.unusedSimpArgs false
set_option linter.unusedVariables false
structure Cx where
 i : Nat
 f : Nat
 q : Nat
def spC (s : List UInt8) (c : Int) : List (List UInt8) := zah (ub c) s
def cxI (s : List UInt8) (c : Int) (x : Cx) : Prop :=
 (x.i <= s.length /\ x.f <= x.i /\ zah (ub c) (s.drop x.f) = (spC s c).drop x.q /\ (∀ k, x.f <= k -> k < x.i -> s[k]? ≠ some (ub c)) /\ x.q < (spC s c).length) \/ (x.i = s.length + 1 /\ x.q = (spC s c).length)
def rcA (L : za7) (s : List UInt8) (c : Int) : Nat -> St -> Option Ann := fun id st => match id with
 | 0 => some ⟨Cx, fun x => [(7, .int .i64 (L zac (L Cx.i x))), (6, .int .i64 (L zac (L Cx.f x))), (5, .sl 900 1 0 (L Cx.q x))], fun x => [(900, .row 9 1 (L Cx.q x) (fun j _ => .str (L2 L zec (L2 L spC s c) j)))], [0, 1], [],
     fun x => L3 L cxI s c x, fun x => L2 L (fun (s : List UInt8) (x : Cx) => s.length + 1 - x.i) s x⟩
 | _ => none
def cOk (c : Int) : Prop := 0 <= c /\ c <= 255
def ybw (L : za7) : zbf := (36, fun xs => match xs with
 | [.str s, .int .u8 c] => some (L2 L upto 1000000 s /\ L cOk c, yw8 L (L2 L spC s c))
 | _ => none)
theorem yap {s : List UInt8} {i : Nat} (h : i < s.length) : zgk s (zac i) = (s[i].toNat : Int) := by
 rw [zgk, zac, Int.toNat_natCast, List.getD_eq_getElem?_getD, List.getElem?_eq_getElem h, Option.getD_some]
theorem yly {u : UInt8} {c : Int} (h : cOk c) : (u.toNat : Int) = c ↔ u = ub c := by
 constructor
 · rintro rfl
   apply UInt8.toNat_inj.1
   rw [ub, UInt8.toNat_ofNat', Int.toNat_natCast]
   have := u.toNat_lt; omega
 · rintro rfl
   exact yr7 h.1 h.2
theorem yks {s : List UInt8} {c : Int} {x : Cx} (h : cxI s c x) (hi : x.i < s.length) (hc : s[x.i] = ub c) : cxI s c ⟨x.i + 1, x.i + 1, x.q + 1⟩ /\ zec (spC s c) x.q = (s.take x.i).drop x.f /\ x.f <= x.i := by
 rcases h with ⟨h1, h2, h3, h4, h5⟩ | ⟨h1, _⟩
 · have e := zhp (c := ub c) (s := s.drop x.f) (m := x.i - x.f) (fun k hk => by rw [List.getElem?_drop]; exact h4 _ (by omega) (by omega)) (by rw [List.getElem?_drop, show x.f + (x.i - x.f) = x.i by omega, List.getElem?_eq_getElem hi, hc])
   rw [h3, List.drop_drop, show x.f + (x.i - x.f + 1) = x.i + 1 by omega] at e
   rw [List.drop_eq_getElem_cons h5] at e
   obtain ⟨e1, e2⟩ := List.cons.inj e
   refine ⟨.inl ⟨by show x.i + 1 <= _; omega, Nat.le_refl _, e2.symm, fun k hk hk' => by (have : x.i + 1 <= k := hk); (have : k < x.i + 1 := hk'); omega, ?_⟩, ?_, h2⟩
   · show x.q + 1 < _
     have hl := congrArg List.length e2
     have := zat (ub c) (s.drop (x.i + 1))
     rw [List.length_drop] at hl
     omega
   · rw [zec, List.getD_eq_getElem?_getD, List.getElem?_eq_getElem h5]
     show (spC s c)[x.q] = _
     rw [e1, List.drop_take]
 · omega
theorem ykr {s : List UInt8} {c : Int} {x : Cx} (h : cxI s c x) (hi : x.i = s.length) : cxI s c ⟨x.i + 1, x.i + 1, x.q + 1⟩ /\ zec (spC s c) x.q = (s.take x.i).drop x.f /\ x.f <= x.i := by
 rcases h with ⟨h1, h2, h3, h4, h5⟩ | ⟨h1, _⟩
 · have e := zeq (c := ub c) (s := s.drop x.f) (fun k hk => by
     rw [List.getElem?_drop] at hk
     have := (List.getElem?_eq_some_iff.1 hk).1
     exact h4 (x.f + k) (by omega) (by omega) hk)
   rw [h3, List.drop_eq_getElem_cons h5] at e
   obtain ⟨e1, e2⟩ := List.cons.inj e
   have hl := congrArg List.length e2
   rw [List.length_drop, List.length_nil] at hl
   refine ⟨.inr ⟨by show x.i + 1 = _; omega, by show x.q + 1 = _; omega⟩, ?_, h2⟩
   rw [zec, List.getD_eq_getElem?_getD, List.getElem?_eq_getElem h5]
   show (spC s c)[x.q] = _
   rw [e1, List.take_of_length_le (by omega)]
 · omega
theorem ymv {s : List UInt8} {c : Int} {x : Cx} (h : cxI s c x) (hi : x.i < s.length) (hc : s[x.i] ≠ ub c) : cxI s c ⟨x.i + 1, x.f, x.q⟩ := by
 rcases h with ⟨h1, h2, h3, h4, h5⟩ | ⟨h1, _⟩
 · refine .inl ⟨by show x.i + 1 <= _; omega, by show x.f <= x.i + 1; omega, h3, fun k hk hk' => ?_, h5⟩
   by_cases hki : k = x.i
   · rw [hki, List.getElem?_eq_getElem hi]
     exact fun e => hc (Option.some.inj e)
   · have hk' : k < x.i + 1 := hk'
     exact h4 k hk (by omega)
 · omega
theorem yao (s : List UInt8) (c : Int) : (spC s c).length <= s.length + 1 := by
 rw [spC, zat]
 have := List.count_le_length (a := ub c) (l := s)
 omega
theorem cx_q {s : List UInt8} {c : Int} {x : Cx} (h : cxI s c x) : x.q <= (spC s c).length /\ x.i <= s.length + 1 := by
 rcases h with ⟨h1, h2, h3, h4, h5⟩ | ⟨h1, h2⟩
 · exact ⟨by omega, by omega⟩
 · exact ⟨by omega, by omega⟩
theorem yby {P : List (List UInt8)} {q : Nat} {t : List UInt8} (h : zec P q = t) (i j : Nat) (hi : i < q + 1) (hj : j < 1) : zhh std (zbm i q) (.str (zec P i)) (.str (zec [t] (i - q))) = .str (zec P i) := by
 by_cases hk : i < q
 · rw [zu2 hk]; rfl
 · have : i = q := by omega
   subst this
   rw [yfs (by omega), Nat.sub_self, h]; rfl
theorem ybx : zaz Tryz.prog (ybw std) := by
 intro xs p r h hp
 dsimp only [ybw] at h |-
 split at h <;> cases h
 try simp only [L2, L3, std] at hp |-
 rename_i s c
 obtain ⟨hp, hc⟩ : s.length <= 1000000 /\ cOk c := hp
 refine za6 (T := tt) (S := noS) (lo := fun L => rcA L s c) (lb := noA) 5 (fn := Tryz.f36) rfl rfl (by kernel_rfl) (by kernel_rfl) rfl zab (zc4 _) (by kernel_rfl) ?_
 intro L P' Q' hL hP hQ
 (cbv; try simp only [syT, true_and, and_true])
 refine ⟨⟨⟨0, 0, 0⟩, ?_⟩, fun x hx => ?_⟩
 · (cbv; try simp only [syT, true_and, and_true])
   (subst hL; subst hQ; simp only [L2, L3, std] at *; try simp only [syS, reduceCtorEq, Int.reduceToNat, Int.reduceAdd, Int.reduceSub] at *)
   exact .inl ⟨Nat.zero_le _, Nat.le_refl _, rfl, fun k _ hk => by (have hk : k < 0 := hk); omega, by rw [spC, zat]; exact Nat.succ_pos _⟩
 · cbv at hx
   (cbv; try simp only [syT, true_and, and_true])
   obtain ⟨i', hi'⟩ : ∃ i', i' = x.i + 1 := ⟨_, rfl⟩
   obtain ⟨q', hq'⟩ : ∃ q', q' = x.q + 1 := ⟨_, rfl⟩
   have hxx : cxI s c x := by
     have h := hx
     rw [hL] at h
     exact h
   have hb := cx_q hxx
   have hsl := yao s c
   refine ⟨fun h1 => ⟨fun h2 => ⟨?_, ?_, ⟨i', i', q'⟩, ?_⟩, fun h2 => ⟨?_, fun h3 => ⟨?_, ?_, ⟨i', i', q'⟩, ?_⟩, fun h3 => ⟨⟨i', x.f, x.q⟩, ?_⟩⟩⟩, fun h1 => ?_⟩
   · (subst hL; subst hQ; simp only [L2, L3, std] at *; try simp only [syS, reduceCtorEq, Int.reduceToNat, Int.reduceAdd, Int.reduceSub] at *)
     have := (ykr hx (by omega)).2.2
     omega
   · (subst hL; subst hQ; simp only [L2, L3, std] at *; try simp only [syS, reduceCtorEq, Int.reduceToNat, Int.reduceAdd, Int.reduceSub] at *)
     omega
   · (cbv; try simp only [syT, true_and, and_true])
     (subst hL; subst hQ; simp only [L2, L3, std] at *; try simp only [syS, reduceCtorEq, Int.reduceToNat, Int.reduceAdd, Int.reduceSub] at *)
     obtain ⟨r1, r2, r3⟩ := ykr hx (by omega)
     subst hi' hq'
     exact ⟨⟨rfl, yby r2⟩, rfl, by omega, by omega, r1, by omega⟩
   · (subst hL; subst hQ; simp only [L2, L3, std] at *; try simp only [syS, reduceCtorEq, Int.reduceToNat, Int.reduceAdd, Int.reduceSub] at *)
     omega
   · (subst hL; subst hQ; simp only [L2, L3, std] at *; try simp only [syS, reduceCtorEq, Int.reduceToNat, Int.reduceAdd, Int.reduceSub] at *)
     have hlt : x.i < s.length := by omega
     have := (yks hx hlt ((yly hc).1 (by rw [<- yap hlt]; exact h3))).2.2
     omega
   · (subst hL; subst hQ; simp only [L2, L3, std] at *; try simp only [syS, reduceCtorEq, Int.reduceToNat, Int.reduceAdd, Int.reduceSub] at *)
     omega
   · (cbv; try simp only [syT, true_and, and_true])
     (subst hL; subst hQ; simp only [L2, L3, std] at *; try simp only [syS, reduceCtorEq, Int.reduceToNat, Int.reduceAdd, Int.reduceSub] at *)
     have hlt : x.i < s.length := by omega
     obtain ⟨r1, r2, r3⟩ := yks hx hlt ((yly hc).1 (by rw [<- yap hlt]; exact h3))
     subst hi' hq'
     exact ⟨⟨rfl, yby r2⟩, rfl, by omega, by omega, r1, by omega⟩
   · (cbv; try simp only [syT, true_and, and_true])
     (subst hL; subst hQ; simp only [L2, L3, std] at *; try simp only [syS, reduceCtorEq, Int.reduceToNat, Int.reduceAdd, Int.reduceSub] at *)
     have hlt : x.i < s.length := by omega
     have r1 := ymv hx hlt (fun e => h3 (by show zgk s (zac x.i) = c; rw [yap hlt]; exact (yly hc).2 e))
     subst hi' hq'
     exact ⟨by omega, r1, by omega⟩
   · (subst hL; subst hQ; simp only [L2, L3, std] at *; try simp only [syS, reduceCtorEq, Int.reduceToNat, Int.reduceAdd, Int.reduceSub] at *)
     rcases hx with ⟨g1, -⟩ | ⟨g1, g2⟩
     · omega
     · rw [g2]
       show zfs (.lst 1 (spC s c).length _) _
       rw [zgt]
       exact ⟨rfl, fun i j hi hj => rfl⟩
def okH (s : List UInt8) (k : Nat) : Bool := yn5 (za8 s k) || (decide (za8 s k = 45) && (decide (0 < k) && decide (k + 1 < s.length)))
def yjh (s : List UInt8) (i : Nat) : Prop := i <= s.length /\ ∀ k, k < i -> okH s k = true
def yhv (c : Int) (k n : Nat) : Prop := (97 <= c /\ c <= 122) \/ (48 <= c /\ c <= 57) \/ (c = 45 /\ 0 < k /\ k + 1 < n)
theorem yhu {s : List UInt8} {k : Nat} : okH s k = true ↔ yhv (za8 s k) k s.length := by
 simp only [okH, yn5, yil, yhv, Bool.or_eq_true, Bool.and_eq_true, decide_eq_true_eq, or_assoc]
theorem yt6 {c : Int} : yt7 c = true ↔ (97 <= c /\ c <= 122) \/ (48 <= c /\ c <= 57) \/ c = 45 := by
 simp only [yt7, yn5, yil, Bool.or_eq_true, Bool.and_eq_true, decide_eq_true_eq, or_assoc]
theorem yj2 {s : List UInt8} {i : Nat} (hi : i < s.length) (h : ¬ yhv (za8 s i) i s.length) : ze8 s = false := by
 unfold yhv at h
 by_cases hc : yt7 (za8 s i) = true
 · have hc := yt6.1 hc
   have h45 : za8 s i = 45 := by omega
   by_cases h0 : i = 0
   · subst h0
     unfold ze8
     rw [decide_eq_true h45]; simp
   · have hl : i = s.length - 1 := by omega
     unfold ze8
     rw [decide_eq_true (show yd9 s = 45 by rw [yd9, <- hl]; exact h45)]; simp
 · unfold ze8
   rw [zpg hi (by simpa using hc)]; simp
theorem zqt {s : List UInt8} {i : Nat} (h : yjh s i) (hi : s.length <= i) : ze8 s = (decide (0 < s.length) && decide (s.length <= 32)) := by
 have hi' : i = s.length := Nat.le_antisymm h.1 hi
 subst hi'
 by_cases h0 : s = []
 · subst h0; rfl
 · have hp : 0 < s.length := List.length_pos_iff.2 h0
   have a0 := yhu.1 (h.2 0 hp)
   have a1 := yhu.1 (h.2 (s.length - 1) (by omega))
   have hall : zwr yt7 s = true := zi9 (i := s.length) ⟨Nat.le_refl _, fun k hk => yt6.2 (by have := yhu.1 (h.2 k hk); unfold yhv at this; omega)⟩ (Nat.le_refl _)
   unfold yhv at a0 a1
   unfold ze8
   rw [hall, decide_eq_false h0, decide_eq_false (show ¬ za8 s 0 = 45 by omega), decide_eq_false (show ¬ yd9 s = 45 by unfold yd9; omega), decide_eq_true hp]
   by_cases h32 : 32 < s.length
   · rw [decide_eq_true h32, decide_eq_false (by omega)]; rfl
   · rw [decide_eq_false h32, decide_eq_true (by omega)]; rfl
theorem zyt {s : List UInt8} {i : Nat} (h : yjh s i) (hi : i < s.length) (hf : yhv (za8 s i) i s.length) : yjh s (i + 1) :=
 ⟨hi, fun k hk => by
   rcases Nat.lt_succ_iff_lt_or_eq.1 hk with h1 | h1
   · exact h.2 k h1
   · rw [h1]; exact yhu.2 hf⟩
theorem pw {i : Nat} (h1 : (i : Int) <= 1000000) : ((i : Int) + 1 + 9223372036854775808) % 18446744073709551616 - 9223372036854775808 = (i : Int) + 1 := by omega
def zs8 (L : za7) : zbf := (46, fun xs => match xs with
 | [.str s] => some (L2 L upto 1000000 s, .bool (L ze8 s))
 | _ => none)
def yro (L : za7) (s : List UInt8) : Nat -> St -> Option Ann := fun id st => match id with
 | 0 => some ⟨Nat, fun i => [(3, .int .i64 (L zac i))], fun i => [], [0], [], fun i => L2 L yjh s i, fun i => L2 L toC s i⟩
 | _ => none
theorem zxo : zaz Tryz.prog (zs8 std) := by
 intro xs p r h hp
 dsimp only [zs8] at h |-
 split at h <;> cases h
 try simp only [L2, L3, std] at hp |-
 rename_i s
 have hp : s.length <= 1000000 := hp
 refine za5 (T := tt) (S := noS) (lo := fun L => yro L s) (lb := noA) 5 (fn := Tryz.f46) (xs := fun L => [.str s]) rfl rfl (by kernel_rfl) (by kernel_rfl) rfl zab (zc4 _) (by kernel_rfl) ?_
 intro L P' Q' hL hP hQ
 (cbv; try simp only [syT, true_and, and_true])
 refine ⟨⟨0, ?_⟩, fun i hi => ?_⟩
 · (cbv; try simp only [syT, true_and, and_true])
   (subst hL; subst hQ; simp only [L2, L3, std] at *; try simp only [syS, reduceCtorEq, Int.reduceToNat, Int.reduceAdd, Int.reduceSub] at *)
   exact ⟨Nat.zero_le _, fun k hk => by omega⟩
 · cbv at hi
   (cbv; try simp only [syT, true_and, and_true])
   repeat' first | refine And.intro ?_ ?_ | refine fun (hh : (_ : Bool) = _) => ?_
   all_goals try (refine ⟨i + 1, ?_⟩; (cbv; try simp only [syT, true_and, and_true]))
   all_goals (subst hL; subst hQ; simp only [L2, L3, std] at *; try simp only [syS, reduceCtorEq, Int.reduceToNat, Int.reduceAdd, Int.reduceSub] at *)
   all_goals have hw := hi.1
   all_goals have hE : za8 s i = ((s.getD i 0).toNat : Int) := rfl
   all_goals try simp only [pw (i := i) (by omega), <- hE] at *
   all_goals first
     | (refine ⟨by omega, zyt hi (by omega) (by unfold yhv; omega), ?_⟩
        show s.length - (i + 1) + 1 <= s.length - i
        omega)
     | exact (yj2 (i := i) (by omega) (by unfold yhv; omega)).symm
     | exact ⟨by omega, by omega⟩
     | (rw [zqt hi (by omega), decide_eq_true (show 0 < s.length by omega)]
        show decide ((s.length : Int) <= 32) = _
        rw [Bool.true_and]
        exact decide_eq_decide.2 (by omega))
     | (rw [zqt hi (by omega), decide_eq_false (show ¬ 0 < s.length by omega)]; rfl)
def zqw (l : List (List UInt8)) : List (List UInt8) := if zec l 0 = [42] /\ 1 < l.length then l.drop 1 else l
def zfy (s : List UInt8) : Int := if s = [] then 3 else if 64 < s.length then 5 else if (zqw (zae s [46])).all ze8 then 0 else 4
def yxg (l : List (List UInt8)) (i : Nat) : Prop := i <= l.length /\ ∀ k, k < i -> ze8 (zec l k) = true
def toP3 (l : List (List UInt8)) (i : Nat) : Nat := l.length - i
theorem zrj {l : List (List UInt8)} {i : Nat} (h : yxg l i) (hi : l.length <= i) : l.all ze8 = true := by
 rw [List.all_eq_true]
 intro b hb
 obtain ⟨k, hk, rfl⟩ := List.getElem_of_mem hb
 have := h.2 k (by omega)
 rwa [zec, List.getD_eq_getElem?_getD, List.getElem?_eq_getElem hk] at this
theorem zwq {l : List (List UInt8)} {i : Nat} (hi : i < l.length) (h : ze8 (zec l i) = false) : l.all ze8 = false := by
 rw [List.all_eq_false]
 refine ⟨l[i], List.getElem_mem hi, ?_⟩
 rw [zec, List.getD_eq_getElem?_getD, List.getElem?_eq_getElem hi] at h
 have h : ze8 l[i] = false := h
 rw [h]; decide
theorem ydz {l : List (List UInt8)} (h1 : zec l 0 = [42]) (h2 : 1 < l.length) : (zqw l).length = l.length - 1 /\ ∀ i, zec (zqw l) i = zec l (Nat.add 1 i) := by
 rw [zqw, if_pos ⟨h1, h2⟩]
 refine ⟨by simp, fun i => ?_⟩
 rw [zec, zec, List.getD_eq_getElem?_getD, List.getD_eq_getElem?_getD, List.getElem?_drop]; rfl
theorem ydy {s : List UInt8} (h1 : ¬ s = []) (h2 : s.length <= 64) (h : (zqw (zae s [46])).all ze8 = true) : zfy s = 0 := by rw [zfy, if_neg h1, if_neg (by omega), if_pos h]
theorem ydx {s : List UInt8} (h1 : ¬ s = []) (h2 : s.length <= 64) (h : (zqw (zae s [46])).all ze8 = false) : zfy s = 4 := by rw [zfy, if_neg h1, if_neg (by omega), if_neg (by rw [h]; decide)]
theorem yam (s : List UInt8) : 0 < (zae s [46]).length /\ (zae s [46]).length <= s.length + 1 := by
 have := yao s 46
 have e : (spC s 46).length = (zae s [46]).length := rfl
 refine ⟨?_, by omega⟩
 rw [zae, zat]; exact Nat.succ_pos _
end Sy
end Go.Proofs.YtogpolfhcbgcbaaGreatDoor
namespace Go.Proofs.YtogpolfhcbgcbaaGreatDoor
namespace Sy
open Go Go.RowKit
end Sy
end Go.Proofs.YtogpolfhcbgcbaaGreatDoor
namespace Go.Proofs.YtogpolfhcbgcbaaGreatDoor
namespace Sy
open Go Go.RowKit
set_option maxRecDepth 100000
set_option linter.unusedSimpArgs false
set_option linter.unusedVariables false
def zjs (a b : List UInt8) : Bool := a.take b.length == b
def zq4 (a b : List UInt8) : Prop := a.length <= 1000000000 /\ b.length <= 1000000000
def zuy (L : za7) : zbf := (55, fun xs => match xs with | [.str a, .str b] => some (L2 L zq4 a b, .bool (L2 L zjs a b)) | _ => none)
def yhp (L : za7) : zbf := (31, fun xs => match xs with | [.str a, .str b] => some (L2 L zq4 a b, .bool (L2 L zjs a b)) | _ => none)
theorem zq5 : zaz Tryz.prog (zuy std) := by
 intro xs p r h hp
 dsimp only [zuy] at h |-
 split at h <;> cases h
 try simp only [L2, L3, std] at hp |-
 rename_i a b
 refine za6 (T := tt) (S := noS) (lo := noA) (lb := noA) 5 (fn := Tryz.f55) rfl rfl (by kernel_rfl) (by kernel_rfl) rfl zab (zc4 _) (by kernel_rfl) ?_
 (intro L P1 Q1 hL hP hQ; cbv; subst hL; simp only [L2, L3, std, syT]; subst hQ)
 (simp only [syS, reduceCtorEq, Int.reduceToNat, Int.reduceAdd, Int.reduceSub])
 exact ⟨fun h => ⟨by omega, rfl⟩, fun h => by
   have : ¬ a.take b.length = b := fun e => by have := congrArg List.length e; simp at this; omega
   simp [zjs, this]⟩
theorem zuw : zaz Tryz.prog (yhp std) := by
 intro xs p r h hp
 dsimp only [yhp] at h |-
 split at h <;> cases h
 try simp only [L2, L3, std] at hp |-
 rename_i a b
 refine za6 (T := tt) (S := fun L => zam [zuy L]) (lo := noA) (lb := noA) 5 (fn := Tryz.f31) rfl rfl (by kernel_rfl) (by kernel_rfl) rfl zab (za2 ⟨zq5, trivial⟩) (by kernel_rfl) ?_
 (intro L P1 Q1 hL hP hQ; cbv; subst hL; simp only [L2, L3, std, syT]; subst hQ)
 (simp only [syS, reduceCtorEq, Int.reduceToNat, Int.reduceAdd, Int.reduceSub])
 exact hp
def yur (l : List (List UInt8)) (k : Nat) : Prop := ze8 (zec l k) = true \/ (zec l k = [42] /\ k = 0 /\ 1 < l.length)
def yhj (l : List (List UInt8)) (i : Nat) : Prop := i <= l.length /\ ∀ k, k < i -> yur l k
theorem yvr {s : List UInt8} {i : Nat} (h1 : ¬ s = []) (h2 : s.length <= 64) (hi : i < (zae s [46]).length) (h : ¬ yur (zae s [46]) i) : zfy s = 4 := by
 unfold yur at h
 have hf : ze8 (zec (zae s [46]) i) = false := by
   cases hc : ze8 (zec (zae s [46]) i) with
   | false => rfl
   | true => exact absurd (.inl hc) h
 by_cases hs : zec (zae s [46]) 0 = [42] /\ 1 < (zae s [46]).length
 · obtain ⟨A1, A2⟩ := ydz hs.1 hs.2
   have hi0 : i ≠ 0 := by
     rintro rfl
     exact h (.inr ⟨hs.1, rfl, hs.2⟩)
   refine ydx h1 h2 (zwq (i := i - 1) (by omega) ?_)
   rw [A2]
   show ze8 (zec (zae s [46]) (1 + (i - 1))) = false
   rw [show 1 + (i - 1) = i by omega]
   exact hf
 · have B0 : zqw (zae s [46]) = zae s [46] := if_neg hs
   refine ydx h1 h2 ?_
   rw [B0]
   exact zwq hi hf
theorem yrt {s : List UInt8} {i : Nat} (h1 : ¬ s = []) (h2 : s.length <= 64) (h : yhj (zae s [46]) i) (hi : (zae s [46]).length <= i) : zfy s = 0 := by
 have hi' : i = (zae s [46]).length := Nat.le_antisymm h.1 hi
 subst hi'
 have h42 : ze8 [42] = false := by decide
 by_cases hs : zec (zae s [46]) 0 = [42] /\ 1 < (zae s [46]).length
 · obtain ⟨A1, A2⟩ := ydz hs.1 hs.2
   refine ydy h1 h2 (zrj (i := (zae s [46]).length - 1) ⟨by omega, fun k hk => ?_⟩ (by omega))
   rw [A2]
   rcases h.2 (1 + k) (by omega) with q | q
   · exact q
   · exact absurd q.2.1 (by omega)
 · have B0 : zqw (zae s [46]) = zae s [46] := if_neg hs
   refine ydy h1 h2 ?_
   rw [B0]
   refine zrj (i := (zae s [46]).length) ⟨Nat.le_refl _, fun k hk => ?_⟩ (Nat.le_refl _)
   rcases h.2 k hk with q | q
   · exact q
   · obtain ⟨q1, rfl, q3⟩ := q
     exact absurd ⟨q1, q3⟩ hs
theorem ybm {l : List (List UInt8)} {i : Nat} (h : yhj l i) (hi : i < l.length) (hf : yur l i) : yhj l (i + 1) :=
 ⟨hi, fun k hk => by
   rcases Nat.lt_succ_iff_lt_or_eq.1 hk with h1 | h1
   · exact h.2 k h1
   · rw [h1]; exact hf⟩
def yrs (L : za7) (s : List UInt8) : Nat -> St -> Option Ann := fun id st => match id with
 | 0 => some ⟨Nat, fun i => [(16, .int .i64 (L zac i))], fun i => [], [3, 14, 15], [], fun i => L2 L yhj (L2 L spC s 46) i, fun i => L2 L toP3 (L2 L spC s 46) i⟩
 | _ => none
def cpT (a b : List UInt8) : List UInt8 := if zjs a b = true then a.drop b.length else a
def yrf (a b : List UInt8) : Bool := decide (b.length <= a.length) && decide (a.drop (a.length - b.length) = b)
def ypk (L : za7) : zbf := (68, fun xs => match xs with | [.str a, .str b] => some (L2 L zq4 a b, .tup [.str (L2 L cpT a b), .bool (L2 L zjs a b)]) | _ => none)
def ywy (L : za7) : zbf := (49, fun xs => match xs with | [.str a, .str b] => some (L2 L zq4 a b, .tup [.str (L2 L cpT a b), .bool (L2 L zjs a b)]) | _ => none)
def ymf (L : za7) : zbf := (69, fun xs => match xs with | [.str a, .str b] => some (L2 L zq4 a b, .bool (L2 L yrf a b)) | _ => none)
def yvl (L : za7) : zbf := (50, fun xs => match xs with | [.str a, .str b] => some (L2 L zq4 a b, .bool (L2 L yrf a b)) | _ => none)
theorem yn2 {a b : List UInt8} (h : zjs a b = true) : b.length <= a.length := by
 have h : a.take b.length = b := by simpa [zjs] using h
 have := congrArg List.length h
 simp at this
 omega
theorem yjx : zaz Tryz.prog (ypk std) := by
 intro xs p r h hp
 dsimp only [ypk] at h |-
 split at h <;> cases h
 try simp only [L2, L3, std] at hp |-
 rename_i a b
 obtain ⟨p1, p2⟩ : zq4 a b := hp
 refine za6 (T := tt) (S := fun L => zam [zuy L]) (lo := noA) (lb := noA) 5 (fn := Tryz.f68) rfl rfl (by kernel_rfl) (by kernel_rfl) rfl zab (za2 ⟨zq5, trivial⟩) (by kernel_rfl) ?_
 (intro L P1 Q1 hL hP hQ; cbv; subst hL; simp only [L2, L3, std, syT]; subst hQ)
 (simp only [syS, reduceCtorEq, Int.reduceToNat, Int.reduceAdd, Int.reduceSub])
 refine ⟨⟨p1, p2⟩, fun h => ⟨(if_neg (by rw [h]; decide)).symm, h.symm⟩, fun h => ⟨⟨by omega, ?_⟩, (if_pos h).symm, h.symm⟩⟩
 have := yn2 h
 omega
theorem ypj : zaz Tryz.prog (ywy std) := by
 intro xs p r h hp
 dsimp only [ywy] at h |-
 split at h <;> cases h
 try simp only [L2, L3, std] at hp |-
 rename_i a b
 refine za6 (T := tt) (S := fun L => zam [ypk L]) (lo := noA) (lb := noA) 5 (fn := Tryz.f49) rfl rfl (by kernel_rfl) (by kernel_rfl) rfl zab (za2 ⟨yjx, trivial⟩) (by kernel_rfl) ?_
 (intro L P1 Q1 hL hP hQ; cbv; subst hL; simp only [L2, L3, std, syT]; subst hQ)
 (simp only [syS, reduceCtorEq, Int.reduceToNat, Int.reduceAdd, Int.reduceSub])
 exact hp
theorem ygz : zaz Tryz.prog (ymf std) := by
 intro xs p r h hp
 dsimp only [ymf] at h |-
 split at h <;> cases h
 try simp only [L2, L3, std] at hp |-
 rename_i a b
 obtain ⟨p1, p2⟩ : zq4 a b := hp
 refine za6 (T := tt) (S := noS) (lo := noA) (lb := noA) 5 (fn := Tryz.f69) rfl rfl (by kernel_rfl) (by kernel_rfl) rfl zab (zc4 _) (by kernel_rfl) ?_
 (intro L P1 Q1 hL hP hQ; cbv; subst hL; simp only [L2, L3, std, syT]; subst hQ)
 (simp only [syS, reduceCtorEq, Int.reduceToNat, Int.reduceAdd, Int.reduceSub])
 refine ⟨fun h => ?_, fun h => ?_⟩
 · have e : ((a.length : Int) - b.length + 9223372036854775808) % 18446744073709551616 - 9223372036854775808 = ((a.length - b.length : Nat) : Int) := by omega
   rw [e, Int.toNat_natCast]
   refine ⟨⟨by omega, by omega⟩, ?_⟩
   unfold yrf seq
   rw [decide_eq_true (show b.length <= a.length by omega)]
   simp [Bool.beq_eq_decide_eq]
 · unfold yrf
   rw [decide_eq_false (show ¬ b.length <= a.length by omega)]; rfl
theorem yme : zaz Tryz.prog (yvl std) := by
 intro xs p r h hp
 dsimp only [yvl] at h |-
 split at h <;> cases h
 try simp only [L2, L3, std] at hp |-
 rename_i a b
 refine za6 (T := tt) (S := fun L => zam [ymf L]) (lo := noA) (lb := noA) 5 (fn := Tryz.f50) rfl rfl (by kernel_rfl) (by kernel_rfl) rfl zab (za2 ⟨ygz, trivial⟩) (by kernel_rfl) ?_
 (intro L P1 Q1 hL hP hQ; cbv; subst hL; simp only [L2, L3, std, syT]; subst hQ)
 (simp only [syS, reduceCtorEq, Int.reduceToNat, Int.reduceAdd, Int.reduceSub])
 exact hp
def zru (a b : List UInt8) : Bool := decide (zf7 a = zf7 b) || (zjs (zf7 a) [42, 46] && (!decide (cpT (zf7 a) [42, 46] = []) && (decide ((cpT (zf7 a) [42, 46]).length + 1 < (zf7 b).length) && yrf (zf7 b) (46 :: cpT (zf7 a) [42, 46]))))
def yu2 (a b : List UInt8) : Prop := a.length <= 1000000 /\ b.length <= 1000000
def yjy (L : za7) : zbf := (28, fun xs => match xs with | [.str a, .str b] => some (L2 L yu2 a b, .bool (L2 L zru a b)) | _ => none)
theorem zwj : zaz Tryz.prog (yjy std) := by
 intro xs p r h hp
 dsimp only [yjy] at h |-
 split at h <;> cases h
 try simp only [L2, L3, std] at hp |-
 rename_i a b
 obtain ⟨p1, p2⟩ : yu2 a b := hp
 refine za6 (T := tt) (S := fun L => zam [zt1 L, ywy L, yvl L]) (lo := noA) (lb := noA) 5 (fn := Tryz.f28) rfl rfl (by kernel_rfl) (by kernel_rfl) rfl zab (za2 ⟨zyf, ypj, yme, trivial⟩) (by kernel_rfl) ?_
 (intro L P1 Q1 hL hP hQ; cbv; subst hL; simp only [L2, L3, std, syT]; subst hQ)
 (simp only [syS, reduceCtorEq, Int.reduceToNat, Int.reduceAdd, Int.reduceSub])
 have la : (zf7 a).length = a.length := List.length_map _
 have lb : (zf7 b).length = b.length := List.length_map _
 have lc : (cpT (zf7 a) [42, 46]).length <= (zf7 a).length := by
   unfold cpT
   split
   · rw [List.length_drop]; omega
   · omega
 have e : ((cpT (zf7 a) [42, 46]).length : Int) + 1 = (((cpT (zf7 a) [42, 46]).length + 1 : Nat) : Int) := by omega
 refine ⟨by show a.length <= _; omega, by show b.length <= _; omega, fun h => ?_, fun h => ⟨⟨by omega, by decide⟩, fun h2 => ⟨fun h3 => ⟨fun h4 => ⟨by simp; omega, ⟨by omega, by simp; omega⟩, ?_⟩, fun h4 => ?_⟩, fun h3 => ?_⟩, fun h2 => ?_⟩⟩
 · unfold zru; rw [decide_eq_true h]; rfl
 · unfold zru
   rw [decide_eq_false h, h2, decide_eq_false h3, decide_eq_true (by omega)]; rfl
 · unfold zru
   rw [decide_eq_false h, h2, decide_eq_false h3, decide_eq_false (show ¬ (cpT (zf7 a) [42, 46]).length + 1 < (zf7 b).length by omega)]; rfl
 · unfold zru
   rw [decide_eq_false h, h2, decide_eq_true h3]; rfl
 · unfold zru
   rw [decide_eq_false h, h2]; rfl
theorem zzc : za9 Tryz.prog 43 [] (.bool true) := by
 refine za6 (T := tt) (S := fun L => zam [yjy L, ycn L]) (lo := noA) (lb := noA) 5 (fn := Tryz.f43) rfl rfl (by kernel_rfl) (by kernel_rfl) rfl zab (za2 ⟨zwj, yco, trivial⟩) (by kernel_rfl) ?_
 (intro L P1 Q1 hL hP hQ; cbv; subst hL; simp only [L2, L3, std, syT]; subst hQ)
 (simp only [syS, reduceCtorEq, Int.reduceToNat, Int.reduceAdd, Int.reduceSub])
 have e1 : zru [42, 46, 97, 46, 98] [120, 46, 121, 46, 97, 46, 98] = true := by decide +kernel
 have e2 : zru [42, 46, 97, 46, 98] [97, 46, 98] = false := by decide +kernel
 have e3 : zqb [119, 101, 98, 45, 49] = true := by decide +kernel
 rw [e1, e2, e3]
 exact ⟨⟨by decide, by decide⟩, fun _ => ⟨⟨by decide, by decide⟩, fun _ => rfl, by decide⟩, by decide⟩
def yv4 (s t : List UInt8) : Bool := Lib.contains s t
def ypl (L : za7) : zbf := (47, fun xs => match xs with | [.str s, .str t] => some (L2 L upto 1000000000 s, .bool (L2 L yv4 s t)) | _ => none)
theorem yq5 (b : Bool) : ∀ (h : Array Obj) (D : Nat -> Prop), R h D zas (.bool b) (.bool b) := fun _ _ => .bool _
theorem yk0 : zaz Tryz.prog (ypl std) := by
 intro xs p r h hp
 dsimp only [ypl] at h |-
 split at h <;> cases h
 try simp only [L2, L3, std] at hp |-
 rename_i s t
 have hp : s.length <= 1000000000 := hp
 refine zgh (fn := Tryz.f47) rfl rfl (by kernel_rfl) (zzf (zcp _) (zcp _)) (fun w hg => ?_)
 obtain ⟨m, hm⟩ := hg.2.2.2.2 0 (by kernel_rfl)
 refine (Tryz.strings_Contains ⟨s.toArray⟩ ⟨t.toArray⟩ m w (by show s.toArray.size < _; rw [List.size_toArray]; omega) hm).mono ?_
 rintro e w' ⟨rfl, rfl⟩
 exact ⟨_, rfl, Below.refl _ _, yq5 _⟩
def ype (s : List UInt8) : Prop := ∃ j, j + 1 < s.length /\ za8 s j = 47 /\ za8 s (j + 1) = 47
theorem occ2 (s : List UInt8) (j : Nat) : Lib.occAt s [47, 47] j = true ↔ j + 1 < s.length /\ za8 s j = 47 /\ za8 s (j + 1) = 47 := by
 unfold Lib.occAt
 rw [List.isPrefixOf_iff_prefix]
 have hb : ∀ k, k < s.length -> (za8 s k = 47 ↔ s[k]? = some 47) := by
   intro k hk
   rw [zf2 hk, List.getElem?_eq_getElem hk]
   constructor
   · intro h
     have : s[k] = 47 := UInt8.toNat_inj.1 (by show s[k].toNat = 47; omega)
     rw [this]
   · intro h
     rw [Option.some.inj h]; rfl
 constructor
 · rintro ⟨r, hr⟩
   have hl := congrArg List.length hr
   simp at hl
   have h0 : s[j]? = some 47 := by
     have := congrArg (fun l => l[0]?) hr
     simp [List.getElem?_drop] at this
     exact this.symm
   have h1 : s[j + 1]? = some 47 := by
     have := congrArg (fun l => l[1]?) hr
     simp [List.getElem?_drop] at this
     exact this.symm
   exact ⟨by omega, (hb j (by omega)).2 h0, (hb (j + 1) (by omega)).2 h1⟩
 · rintro ⟨h, h0, h1⟩
   have h0 := (hb j (by omega)).1 h0
   have h1 := (hb (j + 1) h).1 h1
   refine ⟨s.drop (j + 2), ?_⟩
   rw [List.drop_eq_getElem_cons (i := j) (by omega), List.drop_eq_getElem_cons (i := j + 1) h]
   rw [List.getElem?_eq_getElem (by omega)] at h0 h1
   rw [Option.some.inj h0, Option.some.inj h1]; rfl
theorem yey {s : List UInt8} : yv4 s [47, 47] = true ↔ ype s := by
 unfold yv4 Lib.contains
 rw [decide_eq_true_eq]
 rcases Lib.index_spec s [47, 47] with ⟨h1, h2⟩ | ⟨i, h1, h2, h3, h4⟩
 · rw [h1]
   refine ⟨fun h => absurd h (by decide), fun ⟨j, hj⟩ => ?_⟩
   have := h2 j (by omega)
   rw [(occ2 s j).2 hj] at this
   cases this
 · rw [h1]
   exact ⟨fun _ => ⟨i, (occ2 s i).1 h3⟩, fun _ => Int.natCast_nonneg _⟩
def zrw (c : Int) : Bool := decide (33 <= c) && decide (c <= 126)
open Classical in
noncomputable def zd3 (s : List UInt8) : Int := if zjs s [47] = false \/ ype s \/ zwr zrw s = false then 4 else if 128 < s.length then 5 else 0
noncomputable def ycb (L : za7) : zbf := (27, fun xs => match xs with | [.str s] => some (L2 L upto 1000000000 s, .int .i64 (L zd3 s)) | _ => none)
def yvv (L : za7) (s : List UInt8) : Nat -> St -> Option Ann := fun id st => match id with
 | 0 => some ⟨Nat, fun i => [(13, .int .i64 (L zac i))], fun i => [], [0, 12], [], fun i => L (L2 L zp0 zrw s) i, fun i => L2 L toC s i⟩
 | _ => none
theorem ycc : zaz Tryz.prog (ycb std) := by
 intro xs p r h hp
 dsimp only [ycb] at h |-
 split at h <;> cases h
 try simp only [L2, L3, std] at hp |-
 rename_i s
 have hp : s.length <= 1000000000 := hp
 refine za5 (T := tt) (S := fun L => zam [yhp L, ypl L]) (lo := fun L => yvv L s) (lb := noA) 5 (fn := Tryz.f27) (xs := fun L => [.str s]) rfl rfl (by kernel_rfl) (by kernel_rfl) rfl zab (za2 ⟨zuw, yk0, trivial⟩) (by kernel_rfl) ?_
 intro L P' Q' hL hP hQ
 (cbv; try simp only [syT, true_and, and_true])
 repeat' first | refine And.intro ?_ ?_ | refine fun (hh : (_ : Bool) = _) => ?_
 all_goals try (refine ⟨0, ?_⟩; (cbv; try simp only [syT, true_and, and_true]))
 all_goals try
   (intro i hi2
    have hi : zp0 zrw s i := by
      have h := hi2
      rw [hL] at h
      exact h
    clear hi2
    (cbv; try simp only [syT, true_and, and_true])
    repeat' first | refine And.intro ?_ ?_ | refine fun (hh : (_ : Bool) = _) => ?_
    all_goals try (refine ⟨i + 1, ?_⟩; (cbv; try simp only [syT, true_and, and_true])))
 all_goals (subst hL; subst hQ; simp only [L2, L3, std] at *; try simp only [syS, reduceCtorEq, Int.reduceToNat, Int.reduceAdd, Int.reduceSub] at *)
 all_goals have hcd : yv4 s [47, 47] = false -> ¬ ype s := fun h h2 => by rw [yey.2 h2] at h; cases h
 all_goals have hE : ∀ k, za8 s k = ((s.getD k 0).toNat : Int) := fun _ => rfl
 all_goals first
   | exact ⟨by omega, by decide⟩
   | exact (if_pos (.inl (by assumption))).symm
   | exact hp
   | exact (if_pos (.inr (.inl (yey.1 (by assumption))))).symm
   | exact yea _ _
   | exact ⟨by omega, by omega⟩
   | (refine (if_pos (.inr (.inr (zpg (i := i) (by omega) ?_)))).symm
      rw [zrw, hE]
      first
        | (rw [decide_eq_false (by omega)]; rfl)
        | (rw [Bool.and_eq_false_iff]; exact .inr (decide_eq_false (by omega))))
   | (refine ⟨by omega, znf hi (by omega) ?_, ?_⟩
      · rw [zrw, hE, Bool.and_eq_true, decide_eq_true_eq, decide_eq_true_eq]; exact ⟨by omega, by omega⟩
      · show s.length - (i + 1) + 1 <= s.length - i
        omega)
   | (have ha := zi9 hi (by omega)
      have hn : ¬ (zjs s [47] = false \/ ype s \/ zwr zrw s = false) := by
        have q1 : zjs s [47] = true := by assumption
        have q2 := hcd (by assumption)
        rintro (q | q | q)
        · rw [q1] at q; cases q
        · exact q2 q
        · rw [ha] at q; cases q
      rw [zd3, if_neg hn]
      first
        | exact (if_pos (show 128 < s.length by omega)).symm
        | exact (if_neg (show ¬ 128 < s.length by omega)).symm)
end Sy
end Go.Proofs.YtogpolfhcbgcbaaGreatDoor
namespace Go.Proofs.YtogpolfhcbgcbaaGreatDoor
namespace Sy
open Go Go.RowKit
set_option maxRecDepth 100000
set_option linter.unusedSimpArgs false
set_option linter.unusedVariables false
def okR (s : List UInt8) (k : Nat) : Prop := (33 <= za8 s k /\ za8 s k <= 126) /\ ¬ (0 < k /\ za8 s k = 47 /\ za8 s (k - 1) = 47)
def yjg (s : List UInt8) (i : Nat) : Prop := i <= s.length /\ ∀ k, k < i -> okR s k
theorem pre1 {s : List UInt8} : zjs s [47] = true ↔ 0 < s.length /\ za8 s 0 = 47 := by
 cases s with
 | nil => exact ⟨fun h => (by cases h), fun h => absurd h.1 (by decide)⟩
 | cons b r =>
   have e : zjs (b :: r) [47] = (b == 47) := by simp [zjs]
   have f : za8 (b :: r) 0 = (b.toNat : Int) := rfl
   rw [e, f, beq_iff_eq]
   refine ⟨fun h => ⟨by simp, by rw [h]; rfl⟩, fun h => UInt8.toNat_inj.1 (by show b.toNat = 47; omega)⟩
theorem zob {s : List UInt8} (h : zjs s [47] = false \/ ype s \/ zwr zrw s = false) : zd3 s = 4 := if_pos h
theorem yvp {s : List UInt8} {i : Nat} (hi : i < s.length) (h : ¬ okR s i) : zd3 s = 4 := by
 unfold okR at h
 by_cases h1 : 33 <= za8 s i /\ za8 s i <= 126
 · have h2 : 0 < i /\ za8 s i = 47 /\ za8 s (i - 1) = 47 := Classical.byContradiction fun q => h ⟨h1, q⟩
   refine zob (.inr (.inl ⟨i - 1, by omega, h2.2.2, ?_⟩))
   rw [show i - 1 + 1 = i by omega]
   exact h2.2.1
 · refine zob (.inr (.inr (zpg hi ?_)))
   unfold zrw
   rw [Bool.and_eq_false_iff, decide_eq_false_iff_not, decide_eq_false_iff_not]
   omega
theorem yrp {s : List UInt8} {i : Nat} (h0 : 0 < s.length) (h1 : za8 s 0 = 47) (h : yjg s i) (hi : s.length <= i) : zd3 s = if 128 < s.length then 5 else 0 := by
 have hi' : i = s.length := Nat.le_antisymm h.1 hi
 subst hi'
 have ha : zwr zrw s = true := zi9 (i := s.length) ⟨Nat.le_refl _, fun k hk => by
   have := (h.2 k hk).1
   unfold zrw
   rw [Bool.and_eq_true, decide_eq_true_eq, decide_eq_true_eq]
   exact this⟩ (Nat.le_refl _)
 refine if_neg ?_
 rintro (q | ⟨j, q1, q2, q3⟩ | q)
 · rw [pre1.2 ⟨h0, h1⟩] at q; cases q
 · exact (h.2 (j + 1) q1).2 ⟨by omega, q3, q2⟩
 · rw [ha] at q; cases q
theorem ymp {s : List UInt8} {i : Nat} (h : yjg s i) (hi : i < s.length) (hf : okR s i) : yjg s (i + 1) :=
 ⟨hi, fun k hk => by
   rcases Nat.lt_succ_iff_lt_or_eq.1 hk with h1 | h1
   · exact h.2 k h1
   · rw [h1]; exact hf⟩
theorem pj {i : Nat} (h : 0 < i) (h1 : (i : Int) <= 1000000000) : ((i : Int) - 1 + 9223372036854775808) % 18446744073709551616 - 9223372036854775808 = ((i - 1 : Nat) : Int) := by omega
noncomputable def zs7 (L : za7) : zbf := (8, fun xs => match xs with | [.str s] => some (L2 L upto 1000000000 s, .int .i64 (L zd3 s)) | _ => none)
def yrn (L : za7) (s : List UInt8) : Nat -> St -> Option Ann := fun id st => match id with
 | 0 => some ⟨Nat, fun i => [(3, .int .i64 (L zac i))], fun i => [], [0], [], fun i => L2 L yjg s i, fun i => L2 L toC s i⟩
 | _ => none
theorem zxn : zaz Tryz.prog (zs7 std) := by
 intro xs p r h hp
 dsimp only [zs7] at h |-
 split at h <;> cases h
 try simp only [L2, L3, std] at hp |-
 rename_i s
 have hp : s.length <= 1000000000 := hp
 refine za5 (T := tt) (S := noS) (lo := fun L => yrn L s) (lb := noA) 5 (fn := Tryz.f8) (xs := fun L => [.str s]) rfl rfl (by kernel_rfl) (by kernel_rfl) rfl zab (zc4 _) (by kernel_rfl) ?_
 intro L P' Q' hL hP hQ
 (cbv; try simp only [syT, true_and, and_true])
 repeat' first | refine And.intro ?_ ?_ | refine fun (hh : (_ : Bool) = _) => ?_
 all_goals try (refine ⟨0, ?_⟩; (cbv; try simp only [syT, true_and, and_true]))
 all_goals try
   (intro i hi
    cbv at hi
    (cbv; try simp only [syT, true_and, and_true])
    repeat' first | refine And.intro ?_ ?_ | refine fun (hh : (_ : Bool) = _) => ?_
    all_goals try (refine ⟨i + 1, ?_⟩; (cbv; try simp only [syT, true_and, and_true])))
 all_goals (subst hL; subst hQ; simp only [L2, L3, std] at *; try simp only [syS, reduceCtorEq, Int.reduceToNat, Int.reduceAdd, Int.reduceSub] at *)
 all_goals have hE : ∀ k, za8 s k = ((s.getD k 0).toNat : Int) := fun _ => rfl
 all_goals try
   (have g0 : ¬ ((s.length : Nat) : Int) = 0 := by assumption
    have g1 : ((s.getD 0 0).toNat : Int) = 47 := by assumption)
 all_goals try
   (have g2 : 0 < (i : Int) := by assumption
    have g3 : (i : Int) < s.length := by assumption
    have g4 := pj (i := i) (by omega) (by omega)
    simp only [g4, Int.toNat_natCast] at *)
 all_goals first
   | (refine (zob (.inl ?_)).symm
      cases hq : zjs s [47] with
      | false => rfl
      | true =>
        have q := pre1.1 hq
        rw [hE] at q
        omega)
   | exact ⟨Nat.zero_le _, fun k hk => by omega⟩
   | exact ⟨by omega, by omega⟩
   | (refine (yvp (i := i) (by omega) ?_).symm
      unfold okR
      simp only [hE]
      omega)
   | (refine ⟨by omega, ymp hi (by omega) ?_, ?_⟩
      · unfold okR
        simp only [hE]
        omega
      · show s.length - (i + 1) + 1 <= s.length - i
        omega)
   | (rw [yrp (by omega) (by rw [hE]; exact g1) hi (by omega)]
      first
        | exact (if_pos (show 128 < s.length by omega)).symm
        | exact (if_neg (show ¬ 128 < s.length by omega)).symm)
end Sy
end Go.Proofs.YtogpolfhcbgcbaaGreatDoor
namespace Go.Proofs.YtogpolfhcbgcbaaGreatDoor
namespace Sy
open Go Go.RowKit
set_option linter.unusedVariables false
def DW (W : World) : Nat -> Prop := fun b => b < W.heap.size
structure zen {H : Type} (enc : TypeId × Value -> H) (P : Program) (W : World) (t : TypeId) (α : Type) (sz : Nat) (av : α -> Nat -> AV) (ok : α -> Prop) : Prop where
 size : P.cellsOf t = sz
 go : ∀ fuel cs x, DataW.trod enc P W 0 (fun _ => true) true fuel t cs = some x -> ∃ y : α, ok y /\ cs.length = sz /\ ∀ j, j < sz -> ∃ v, cs[j]? = some v /\ one v /\ R W.heap (DW W) zas (av y j) v
structure zwt {H : Type} (enc : TypeId × Value -> H) (P : Program) (W : World) (fs : List Field) (off : Nat) (α : Type) (sz : Nat) (av : α -> Nat -> AV) (ok : α -> Prop) : Prop where
 go : ∀ fuel (cs : List Value) (xs : List (DataW H × List MemPlace)), (∀ (i : Nat) (f : Field), fs[i]? = some f -> ∃ x, DataW.trod enc P W 0 (fun _ => true) true fuel f.type ((cs.drop f.offset).take (P.cellsOf f.type)) = some x) -> ∃ y : α, ok y /\ ∀ j, j < sz -> ∃ v, cs[off + j]? = some v /\ one v /\ R W.heap (DW W) zas (av y j) v
theorem sgl {h : Array Obj} {D : Nat -> Prop} {f : Nat -> AV} {v : Value} (h1 : one v) (h2 : R h D zas (f 0) v) : ∀ j, j < 1 -> ∃ u, [v][j]? = some u /\ one u /\ R h D zas (f j) u := by
 intro j hj
 obtain rfl : j = 0 := by omega
 exact ⟨v, rfl, h1, h2⟩
theorem zt2 {α : Type} (p : Nat -> α -> Prop) : ∀ n, (∀ i, i < n -> ∃ y, p i y) -> ∃ l : List α, l.length = n /\ ∀ i, i < n -> ∃ y, l[i]? = some y /\ p i y
 | 0, _ => ⟨[], rfl, fun i hi => by omega⟩
 | m + 1, h => by
   obtain ⟨l, e1, e2⟩ := zt2 p m (fun i hi => h i (by omega))
   obtain ⟨y, hy⟩ := h m (by omega)
   refine ⟨l ++ [y], by simp [e1], fun i hi => ?_⟩
   by_cases hi' : i < m
   · obtain ⟨z, z1, z2⟩ := e2 i hi'
     exact ⟨z, by rw [List.getElem?_append_left (by omega)]; exact z1, z2⟩
   · have : i = m := by omega
     subst this
     exact ⟨y, by rw [<- e1]; simp, hy⟩
section
variable {H : Type} {enc : TypeId × Value -> H} {P : Program} {W : World}
theorem zl0 {t : TypeId} {k : IntKind} (ht : P.underlying t = some (.int k)) (hc : P.cellsOf t = 1) : zen enc P W t Int 1 (fun n _ => .int k n) (fun n => (Lit.int k n).wf = true) := by
 refine ⟨hc, fun fuel cs x h => ?_⟩
 obtain ⟨n, rfl, rfl, hw⟩ := DataW.trod_int ht h
 exact ⟨n, hw, rfl, sgl rfl (.int k n)⟩
theorem opens_str {t : TypeId} (ht : P.underlying t = some .string) (hc : P.cellsOf t = 1) : zen enc P W t (List UInt8) 1 (fun l _ => .str l) (fun l => l.length <= maxLen) := by
 refine ⟨hc, fun fuel cs x h => ?_⟩
 obtain ⟨s, rfl, rfl, hs⟩ := DataW.trod_string ht h
 exact ⟨s.data.toList, by rw [Array.length_toList]; exact hs, rfl, sgl rfl (.str _ _ rfl)⟩
def avL {α : Type} (av : α -> Nat -> AV) (l : List α) (i j : Nat) : AV := match l[i]? with | some y => av y j | none => .dead
theorem zsp {t e : TypeId} {α : Type} {sz : Nat} {av : α -> Nat -> AV} {ok : α -> Prop} (ht : P.underlying t = some (.slice e)) (hc : P.cellsOf t = 1) (he : zen enc P W e α sz av ok) (hs : 0 < sz) :
   zen enc P W t (List α) 1 (fun l _ => .lst sz l.length (avL av l)) (fun l => l.length <= maxLen /\ ∀ y ∈ l, ok y) := by
 refine ⟨hc, fun fuel cs x h => ?_⟩
 rcases DataW.trod_slice ht h with ⟨rfl, rfl⟩ | ⟨a, len, cap, elems, rest, n, _, rfl, rfl, hb, hl, hm, hlen, hel, _, _⟩
 · exact ⟨[], ⟨Nat.zero_le _, fun y hy => by cases hy⟩, rfl, sgl rfl (.lst0 _ _ _ _ (fun _ => rfl))⟩
 · have each : ∀ i, i < len -> ∃ y : α, ok y /\ ∀ j, j < sz -> ∃ v, W.cell? ((a.add (i * sz)).add j) = some v /\ one v /\ R W.heap (DW W) zas (av y j) v := by
     intro i hi
     have h1 := hel i hi
     rw [he.size] at h1
     obtain ⟨z, hz⟩ : ∃ z, elems[i]? = some z := ⟨elems[i], by simp [hlen, hi]⟩
     rw [hz, Option.bind_eq_some_iff] at h1
     obtain ⟨cs', h2, h3⟩ := h1
     obtain ⟨y, y1, y2, y3⟩ := he.go _ _ _ h3
     refine ⟨y, y1, fun j hj => ?_⟩
     obtain ⟨v, v1, v2, v3⟩ := y3 j hj
     exact ⟨v, by rw [(World.cells?_some h2).2.2 j hj]; exact v1, v2, v3⟩
   obtain ⟨l, hl1, hl2⟩ : ∃ l : List α, l.length = len /\ ∀ i, i < len -> ∃ y, l[i]? = some y /\ ok y /\ ∀ j, j < sz -> ∃ v, W.cell? ((a.add (i * sz)).add j) = some v /\ one v /\ R W.heap (DW W) zas (av y j) v :=
     zt2 (fun i y => ok y /\ ∀ j, j < sz -> ∃ v, W.cell? ((a.add (i * sz)).add j) = some v /\ one v /\ R W.heap (DW W) zas (av y j) v) len each
   refine ⟨l, ⟨by omega, fun y hy => ?_⟩, rfl, sgl rfl ?_⟩
   · obtain ⟨i, hi, rfl⟩ := List.getElem_of_mem hy
     obtain ⟨z, z1, z2, _⟩ := hl2 i (by omega)
     rw [List.getElem?_eq_getElem hi] at z1
     cases z1; exact z2
   · show R W.heap (DW W) zas (.lst sz l.length (avL av l)) _
     by_cases h0 : len = 0
     · subst h0; rw [hl1]; exact .lst0 _ _ _ _ (fun h => by cases h)
     · have cell : ∀ i j, i < len -> j < sz -> ∃ v, hcell W.heap a.block (a.off + i * sz + j) = some v /\ one v /\ R W.heap (DW W) zas (avL av l i j) v := by
         intro i j hi hj
         obtain ⟨y, y1, _, y3⟩ := hl2 i hi
         obtain ⟨v, v1, v2, v3⟩ := y3 j hj
         refine ⟨v, ?_, v2, by rw [avL, y1]; exact v3⟩
         rw [<- zm0]
         have hsp : ∀ p : Addr, W.cell? p = some v -> p.spot = none := by
           intro p hp
           unfold World.cell? at hp
           split at hp
           · split at hp
             · cases hp
             · rename_i hn; simpa using hn
           · cases hp
         have h1 := hsp _ v1
         have e : (a.add (i * sz)).add j = ⟨a.block, a.off + i * sz + j, none⟩ := by
           have hb1 : ((a.add (i * sz)).add j).block = a.block := by simp only [Addr.add]; split <;> split <;> rfl
           have hb2 : ((a.add (i * sz)).add j).off = a.off + i * sz + j := by simp only [Addr.add]; split <;> split <;> simp_all
           cases hq : (a.add (i * sz)).add j with
           | mk b o s => rw [hq] at h1 hb1 hb2; simp_all
         rw [<- e]; exact v1
       have hsp0 : a.spot = none := by
         obtain ⟨y, _, _, y3⟩ := hl2 0 (by omega)
         obtain ⟨v, v1, _⟩ := y3 0 hs
         rw [Nat.zero_mul] at v1
         simp only [Addr.add, if_true] at v1
         unfold World.cell? at v1
         split at v1
         · split at v1
           · cases v1
           · rename_i hn; simpa using hn
         · cases v1
       have hD : DW W a.block := by
         obtain ⟨v, v1, _⟩ := cell 0 0 (by omega) hs
         refine Classical.byContradiction fun hn => ?_
         unfold hcell at v1
         rw [Array.getElem?_eq_none (by unfold DW at hn; omega)] at v1
         cases v1
       have ea : a = ⟨a.block, a.off, none⟩ := by cases a; simp_all
       rw [ea, <- hl1]
       refine .lst sz l.length (avL av l) a.block a.off cap (fun i j => (hcell W.heap a.block (a.off + i * sz + j)).getD undef) hD (by omega) (fun i j hi hj => ?_) (fun i j hi hj => ?_) (fun i j hi hj => ?_)
       all_goals
         obtain ⟨v, v1, v2, v3⟩ := cell i j (by omega) hj
         rw [v1]
         first | rfl | exact v2 | exact v3
theorem ycf {t e : TypeId} {α : Type} {sz n : Nat} {av : α -> Nat -> AV} {ok : α -> Prop} (ht : P.underlying t = some (.array n e)) (hc : P.cellsOf t = n * sz) (he : zen enc P W e α sz av ok) (hs : 0 < sz) :
   zen enc P W t (List α) (n * sz) (fun l j => avL av l (j / sz) (j % sz)) (fun l => l.length = n /\ ∀ y ∈ l, ok y) := by
 refine ⟨hc, fun fuel cs x h => ?_⟩
 obtain ⟨xs, m, _, rfl, hl, hx, hel⟩ := DataW.trod_array ht h
 obtain ⟨l, hl1, hl2⟩ : ∃ l : List α, l.length = n /\ ∀ i, i < n -> ∃ y, l[i]? = some y /\ ok y /\ ∀ j, j < sz -> ∃ v, cs[i * sz + j]? = some v /\ one v /\ R W.heap (DW W) zas (av y j) v :=
   zt2 (fun i y => ok y /\ ∀ j, j < sz -> ∃ v, cs[i * sz + j]? = some v /\ one v /\ R W.heap (DW W) zas (av y j) v) n (fun i hi => by
     have h1 := hel i hi
     rw [he.size, List.getElem?_eq_getElem (by omega)] at h1
     obtain ⟨y, y1, y2, y3⟩ := he.go _ _ _ h1
     refine ⟨y, y1, fun j hj => ?_⟩
     obtain ⟨v, v1, v2⟩ := y3 j hj
     rw [List.getElem?_take, if_pos hj, List.getElem?_drop] at v1
     exact ⟨v, v1, v2⟩)
 refine ⟨l, ⟨hl1, fun y hy => ?_⟩, by rw [hl, hc], fun j hj => ?_⟩
 · obtain ⟨i, hi, rfl⟩ := List.getElem_of_mem hy
   obtain ⟨z, z1, z2, _⟩ := hl2 i (by omega)
   rw [List.getElem?_eq_getElem hi] at z1
   cases z1; exact z2
 · have hi : j / sz < n := Nat.div_lt_of_lt_mul (by rw [Nat.mul_comm]; exact hj)
   obtain ⟨z, z1, _, z3⟩ := hl2 (j / sz) hi
   obtain ⟨v, v1, v2⟩ := z3 (j % sz) (Nat.mod_lt _ hs)
   rw [show j / sz * sz + j % sz = j by rw [Nat.mul_comm]; exact Nat.div_add_mod j sz] at v1
   exact ⟨v, v1, by unfold avL; rw [z1]; exact v2⟩
theorem zj4 (off : Nat) : zwt enc P W [] off Unit 0 (fun _ _ => .dead) (fun _ => True) := ⟨fun _ _ _ _ => ⟨(), trivial, fun j hj => by omega⟩⟩
theorem zbj {f : Field} {fs : List Field} {off : Nat} {α β : Type} {sz sz' : Nat} {av : α -> Nat -> AV} {av' : β -> Nat -> AV} {ok : α -> Prop} {ok' : β -> Prop} (ho : f.offset = off) (hf : zen enc P W f.type α sz av ok) (hr : zwt enc P W fs (off + sz) β sz' av' ok') :
   zwt enc P W (f :: fs) off (α × β) (sz + sz') (fun y j => if j < sz then av y.1 j else av' y.2 (j - sz)) (fun y => ok y.1 /\ ok' y.2) := by
 refine ⟨fun fuel cs xs h => ?_⟩
 obtain ⟨x, hx⟩ := h 0 f rfl
 obtain ⟨y, y1, y2, y3⟩ := hf.go _ _ _ hx
 obtain ⟨z, z1, z2⟩ := hr.go fuel cs xs (fun i g hg => h (i + 1) g hg)
 refine ⟨(y, z), ⟨y1, z1⟩, fun j hj => ?_⟩
 by_cases hlt : j < sz
 · obtain ⟨v, v1, v2, v3⟩ := y3 j hlt
   refine ⟨v, ?_, v2, by simp only [if_pos hlt]; exact v3⟩
   rw [hf.size, List.getElem?_take, if_pos hlt, List.getElem?_drop, ho] at v1
   exact v1
 · obtain ⟨v, v1, v2, v3⟩ := z2 (j - sz) (by omega)
   refine ⟨v, ?_, v2, by simp only [if_neg hlt]; exact v3⟩
   rw [<- v1]; congr 1; omega
theorem zg3 {t : TypeId} {fs : Array Field} {α : Type} {sz : Nat} {av : α -> Nat -> AV} {ok : α -> Prop} (ht : P.underlying t = some (.struct fs)) (hc : P.cellsOf t = sz) (hf : zwt enc P W fs.toList 0 α sz av ok) : zen enc P W t α sz av ok := by
 refine ⟨hc, fun fuel cs x h => ?_⟩
 obtain ⟨xs, n, rfl, rfl, hl, hx, hfs⟩ := DataW.trod_struct ht h
 obtain ⟨y, y1, y2⟩ := hf.go n cs xs (fun i f hi => by
   have := hfs i f (by simpa using hi)
   have hlt : i < xs.length := by rw [hx]; simpa using (List.getElem?_eq_some_iff.1 hi).1
   exact ⟨xs[i], by rw [this]; simp [hlt]⟩)
 exact ⟨y, y1, by omega, fun j hj => by obtain ⟨v, v1, v2⟩ := y2 j hj; exact ⟨v, by simpa using v1, v2⟩⟩
theorem zen.map {t : TypeId} {α β : Type} {sz : Nat} {av : α -> Nat -> AV} {av' : β -> Nat -> AV} {ok : α -> Prop} {ok' : β -> Prop} (O : zen enc P W t α sz av ok) (f : α -> β) (h1 : ∀ y j, j < sz -> av y j = av' (f y) j) (h2 : ∀ y, ok y -> ok' (f y)) : zen enc P W t β sz av' ok' := by
 refine ⟨O.size, fun fuel cs x h => ?_⟩
 obtain ⟨y, y1, y2, y3⟩ := O.go fuel cs x h
 refine ⟨f y, h2 y y1, y2, fun j hj => ?_⟩
 obtain ⟨v, v1, v2, v3⟩ := y3 j hj
 exact ⟨v, v1, v2, by rw [<- h1 y j hj]; exact v3⟩
theorem open_one {t : TypeId} {α : Type} {av : α -> Nat -> AV} {ok : α -> Prop} {v : Value} {d : DataW H} {p : List MemPlace} (O : zen enc P W t α 1 av ok) (hv : v.cells = #[v]) (h : DataW.Trod enc P W 0 (fun _ => true) true t v d p) :
   ∃ y, ok y /\ R W.heap (DW W) zas (av y 0) v := by
 obtain ⟨fuel, h⟩ := h
 obtain ⟨y, y1, y2, y3⟩ := O.go _ _ _ h
 obtain ⟨u, u1, u2, u3⟩ := y3 0 (by omega)
 rw [hv] at u1
 simp at u1
 subst u1
 exact ⟨y, y1, u3⟩
theorem open_agg {t : TypeId} {α : Type} {sz : Nat} {av : α -> Nat -> AV} {ok : α -> Prop} {cs : Array Value} {d : DataW H} {p : List MemPlace} (O : zen enc P W t α sz av ok) (h : DataW.Trod enc P W 0 (fun _ => true) true t (.agg cs) d p) :
   ∃ y, ok y /\ R W.heap (DW W) zas (.agg ((List.range sz).map (av y))) (.agg cs) := by
 obtain ⟨fuel, h⟩ := h
 obtain ⟨y, y1, y2, y3⟩ := O.go _ _ _ h
 refine ⟨y, y1, .agg _ _ (by simpa [Value.cells] using y2.symm) (fun i v hv => ?_) (fun i x v hx hv => ?_)⟩
 · have hi : i < sz := by
     have := (Array.getElem?_eq_some_iff.1 hv).1
     simp [Value.cells] at y2; omega
   obtain ⟨u, u1, u2, u3⟩ := y3 i hi
   simp [Value.cells] at u1
   rw [u1] at hv; cases hv; exact u2
 · have hi : i < sz := by
     have := (List.getElem?_eq_some_iff.1 hx).1
     simpa using this
   obtain ⟨u, u1, u2, u3⟩ := y3 i hi
   simp [Value.cells] at u1
   rw [u1] at hv; cases hv
   simp [hi] at hx
   subst hx; exact u3
end
theorem yg2 {P : Program} {f : FuncId} {xs ys : List AV} {r : AV} (h : ∀ h D vs, RL h D zas xs vs -> RL h D zas ys vs) (ha : za9 P f ys r) : za9 P f xs r := fun D w vs hD hx => ha D w vs hD (h _ _ _ hx)
end Sy
end Go.Proofs.YtogpolfhcbgcbaaGreatDoor
namespace Go.Proofs.YtogpolfhcbgcbaaGreatDoor
namespace Sy
open Go Go.RowKit
set_option maxRecDepth 100000
set_option linter.unusedSimpArgs false
set_option linter.unusedVariables false
structure Vw (α : Type) where
 sz : Nat
 cell : za7 -> α -> Nat -> AV
 rd : (Nat -> AV) -> α
 ok : (Nat -> AV) -> Prop
 d : α
structure zrv {α : Type} (V : Vw α) : Prop where
 turn : ∀ c, V.ok c -> ∀ j, j < V.sz -> ∀ (h : Array Obj) (D : Nat -> Prop) (μ : Mu) (v : Value), R h D μ (c j) v -> R h D μ (V.cell std (V.rd c) j) v
 back : ∀ c x, (∀ j, j < V.sz -> c j = V.cell std x j) -> V.ok c /\ V.rd c = x
def zik {α : Type} (V : Vw α) (l : List α) (i : Nat) : α := l.getD i V.d
def zcm {α : Type} (l : List α) : Nat := l.length
def yt9 {α : Type} (L : za7) (V : Vw α) (l : List α) : Nat -> Nat -> AV := fun i j => V.cell L (L (L (zik V) l) i) j
def zyd {α : Type} (L : za7) (V : Vw α) (l : List α) : AV := .lst V.sz (L zcm l) (yt9 L V l)
def rdW {α : Type} (V : Vw α) : AV -> List α
 | .lst _ n get => (List.range n).map fun i => V.rd (get i)
 | _ => []
def okW {α : Type} (V : Vw α) : AV -> Prop
 | .lst sz n get => sz = V.sz /\ ∀ i, i < n -> V.ok (get i)
 | .nils => True
 | _ => False
theorem zav {α : Type} {V : Vw α} {l : List α} {i : Nat} (h : i < l.length) : zik V l i = l[i] := by
 rw [zik, List.getD_eq_getElem?_getD, List.getElem?_eq_getElem h]; rfl
theorem zkv {α : Type} (V : Vw α) (sz n : Nat) (get : Nat -> Nat -> AV) : (rdW V (.lst sz n get)).length = n := by simp [rdW]
theorem ybu {α : Type} {V : Vw α} {sz n : Nat} {get : Nat -> Nat -> AV} {i : Nat} (h : i < n) : zik V (rdW V (.lst sz n get)) i = V.rd (get i) := by
 rw [zav (by rw [zkv]; exact h)]
 simp [rdW]
theorem zy3 {α : Type} {V : Vw α} (K : zrv V) {h : Array Obj} {D : Nat -> Prop} {μ : Mu} {x : AV} {v : Value} (ho : okW V x) (r : R h D μ x v) : R h D μ (zyd std V (rdW V x)) v := by
 match x, ho with
 | .nils, _ => cases r; exact .lst0 _ _ none 0 (fun _ => rfl)
 | .lst sz n get, ho =>
   obtain ⟨rfl, ho⟩ := ho
   have e : zyd std V (rdW V (.lst V.sz n get)) = .lst V.sz n (yt9 std V (rdW V (.lst V.sz n get))) := by
     show AV.lst V.sz (zcm (rdW V (.lst V.sz n get))) _ = _
     rw [show zcm (rdW V (.lst V.sz n get)) = n from zkv _ _ _ _]
   rw [e]
   cases r with
   | lst0 _ _ a cap hn => exact .lst0 _ _ a cap hn
   | lst _ _ _ b o cap vs hD hc hv h1 hr =>
     refine .lst _ _ _ b o cap vs hD hc hv h1 (fun i j hi hj => ?_)
     show R h D zas (V.cell std (zik V (rdW V (.lst V.sz n get)) i) j) (vs i j)
     rw [ybu hi]
     exact K.turn _ (ho i hi) j hj _ _ _ _ (hr i j hi hj)
theorem zuq {α : Type} {V : Vw α} (K : zrv V) {n : Nat} {get : Nat -> Nat -> AV} {l : List α} (hn : n = l.length) (h : ∀ i j, i < n -> j < V.sz -> get i j = V.cell std (zik V l i) j) : okW V (.lst V.sz n get) /\ rdW V (.lst V.sz n get) = l := by
 subst hn
 refine ⟨⟨rfl, fun i hi => (K.back _ _ (fun j hj => h i j hi hj)).1⟩, ?_⟩
 apply List.ext_getElem
 · rw [zkv]
 · intro i h1 h2
   have := ybu (V := V) (sz := V.sz) (get := get) h2
   rw [zav h1] at this
   rw [this, (K.back _ _ (fun j hj => h i j h2 hj)).2, zav h2]
theorem zc7 {α : Type} {V : Vw α} (K : zrv V) (l : List α) : okW V (zyd std V l) /\ rdW V (zyd std V l) = l := zuq K rfl (fun i j hi hj => rfl)
theorem zhe {α : Type} {V : Vw α} (K : zrv V) {P : Program} {f : FuncId} {x r : AV} {xs : List AV} (ho : okW V x) (h : za9 P f (zyd std V (rdW V x) :: xs) r) : za9 P f (x :: xs) r :=
 yg2 (fun hp D vs hr => by
   refine ⟨by rw [<- hr.1]; rfl, fun i z v hz hv => ?_⟩
   cases i with
   | zero => cases hz; exact zy3 K ho (hr.2 0 x v rfl hv)
   | succ i => exact hr.2 (i + 1) z v hz hv) h
theorem yxj {α : Type} {V : Vw α} (K : zrv V) {P : Program} {f : FuncId} {y x r : AV} {xs : List AV} (ho : okW V x) (h : za9 P f (y :: zyd std V (rdW V x) :: xs) r) : za9 P f (y :: x :: xs) r :=
 yg2 (fun hp D vs hr => by
   refine ⟨by rw [<- hr.1]; rfl, fun i z v hz hv => ?_⟩
   match i, hz with
   | 0, hz => exact hr.2 0 z v hz hv
   | 1, hz => cases hz; exact zy3 K ho (hr.2 1 x v rfl hv)
   | i + 2, hz => exact hr.2 (i + 2) z v hz hv) h
def zur (x : AV) : List UInt8 := match x with | .str s => s | _ => []
def isS (x : AV) : Prop := ∃ s, x = .str s
def isI (k : IntKind) (x : AV) : Prop := ∃ n, x = .int k n
theorem ydd {x : AV} (h : isS x) {hp : Array Obj} {D : Nat -> Prop} {μ : Mu} {v : Value} (r : R hp D μ x v) : R hp D μ (.str (zur x)) v := by obtain ⟨s, rfl⟩ := h; exact r
theorem zqp {k : IntKind} {x : AV} (h : isI k x) {hp : Array Obj} {D : Nat -> Prop} {μ : Mu} {v : Value} (r : R hp D μ x v) : R hp D μ (.int k x.toI) v := by obtain ⟨s, rfl⟩ := h; exact r
def zgs {α : Type} (p : α -> Bool) : List α -> Int
 | [] => -1
 | x :: l => if p x = true then 0 else if zgs p l < 0 then -1 else zgs p l + 1
theorem zt8 {α : Type} (p : α -> Bool) : ∀ l : List α, -1 <= zgs p l /\ zgs p l < l.length
 | [] => by simp [zgs]
 | x :: l => by
   have ih := zt8 p l
   rw [List.length_cons]
   unfold zgs
   split
   · omega
   · split <;> omega
theorem zgr {α : Type} (p : α -> Bool) : ∀ l : List α, decide (0 <= zgs p l) = l.any p
 | [] => by simp [zgs]
 | x :: l => by
   have ih := zgr p l
   unfold zgs
   by_cases h : p x = true
   · simp [h]
   · have h' : p x = false := by simpa using h
     rw [if_neg h, List.any_cons, h', Bool.false_or, <- ih]
     split
     · rename_i h2; rw [decide_eq_false (by omega), decide_eq_false (by omega)]
     · rename_i h2; rw [decide_eq_true (by omega), decide_eq_true (by omega)]
theorem ydv {α : Type} {p : α -> Bool} : ∀ {l : List α} {i : Nat} (hi : i < l.length), (∀ k (hk : k < i), p (l[k]'(by omega)) = false) -> p l[i] = true -> zgs p l = i
 | [], i, hi, _, _ => by simp at hi
 | x :: l, 0, hi, _, h => by simp at h; simp [zgs, h]
 | x :: l, i + 1, hi, h0, h => by
   have hx : p x = false := by simpa using h0 0 (by omega)
   have ih := ydv (p := p) (l := l) (i := i) (by simpa using hi) (fun k hk => by have := h0 (k + 1) (by omega); simpa using this) (by simpa using h)
   rw [zgs, if_neg (by rw [hx]; decide), if_neg (by omega), ih]; simp
theorem ydu {α : Type} {p : α -> Bool} : ∀ {l : List α}, (∀ x ∈ l, p x = false) -> zgs p l = -1
 | [], _ => rfl
 | x :: l, h => by
   have hx := h x (by simp)
   have ih := ydu (p := p) (l := l) (fun y hy => h y (by simp [hy]))
   rw [zgs, if_neg (by rw [hx]; decide), if_pos (by omega)]
def zmd {α : Type} (p : α -> Bool) (l : List α) (i : Nat) : Prop := i <= l.length /\ ∀ x ∈ l.take i, p x = false
theorem zl5 {α : Type} (p : α -> Bool) (l : List α) : zmd p l 0 := ⟨Nat.zero_le _, fun x hx => by simp at hx⟩
theorem zew {α : Type} {V : Vw α} {p : α -> Bool} {l : List α} {i : Nat} (h : zmd p l i) (hi : i < l.length) (hp : p (zik V l i) = false) : zmd p l (i + 1) := by
 refine ⟨hi, fun x hx => ?_⟩
 rw [List.take_succ_eq_append_getElem hi, List.mem_append] at hx
 rcases hx with hx | hx
 · exact h.2 x hx
 · rw [List.mem_singleton.1 hx, <- zav (V := V) hi]; exact hp
theorem zg4 {α : Type} {V : Vw α} {p : α -> Bool} {l : List α} {i : Nat} (h : zmd p l i) (hi : i < l.length) (hp : p (zik V l i) = true) : zgs p l = i := by
 rw [zav hi] at hp
 refine ydv hi (fun k hk => h.2 _ ?_) hp
 rw [List.mem_take_iff_getElem]
 exact ⟨k, by omega, rfl⟩
theorem zg5 {α : Type} {p : α -> Bool} {l : List α} {i : Nat} (h : zmd p l i) (hi : ¬ i < l.length) : zgs p l = -1 := by
 have := h.2
 rw [List.take_of_length_le (by omega)] at this
 exact ydu this
def zl6 : znq := (151, fun raw ob => match raw with
 | [.ref id 0] => match ob id with
   | some (.box ty cs) => some ⟨[.ref 500000 0], [(500000, .box ty cs)], True, .ref 500000 0, [(500000, .box ty cs)]⟩
   | _ => none
 | _ => none)
theorem zn0 : zfz Tryz.prog zl6 := by
 intro raw ob T hT hp
 unfold zl6 at hT
 simp only at hT
 split at hT
 · split at hT
   · cases hT
     intro D w μ vs hD hxs hdom hobs hinj hown hg hgb
     obtain ⟨v, hv⟩ : ∃ v, vs.toList = [v] := List.length_eq_one_iff.1 (by simpa using hxs.1.symm)
     have : vs = #[v] := by rw [<- Array.toArray_toList (xs := vs), hv]
     subst this
     unfold ze7
     rw [show zl6.fst = 151 from rfl, run_callFunc_extern (fn := Tryz.f151) rfl (by kernel_rfl) (by kernel_rfl) (by kernel_rfl) (e := Extern.AbiNoEscape.same) (by kernel_rfl)]
     rw [Lib.run_noEscape]
     exact ⟨v, D, μ, { ret := rfl, os := rfl, tape := rfl, output := rfl, size := Nat.le_refl _, old := fun _ _ _ => rfl, up := fun _ h => h, dn := fun _ h => .inl h, dom := hdom, obs := hobs, inj := hinj, own := fun n b z h => ⟨(hown n b z h).1, (hown n b z h).2, .inr ⟨n, z, h⟩⟩, keep := fun _ _ _ => rfl, val := hxs.2 0 _ _ rfl rfl }⟩
   · cases hT
 · cases hT
def ypo : znq := (146, fun raw ob => match raw with
 | [.ref id 0] => match ob id with
   | some (.box _ [.nilp, .nils]) => some ⟨[.ref 500000 0], [(500000, .box 137 [.nilp, .nils])], True, .tup [], [(500000, .box 137 [.ref 500000 0, .nils])]⟩
   | some (.box _ [.ref _ 0, .sl k 1 0 n]) => match ob k with
     | some (.row _ 1 m get) => some ⟨[.ref 500000 0], [(500000, .box 137 [.ref 500000 0, .sl 500001 1 0 m]), (500001, .row 5 1 m get)], True, .tup [], [(500000, .box 137 [.ref 500000 0, .sl 500001 1 0 m]), (500001, .row 5 1 m get)]⟩
     | _ => none
   | _ => none
 | _ => none)
theorem yu5 : zbg Tryz.prog 146 [.ref 500000 0] [(500000, .box 137 [.nilp, .nils])] (.tup []) [(500000, .box 137 [.ref 500000 0, .nils])] := by
 refine zb9 (T := tt) (S := fun L => zc3 [] [zl6]) (lo := noA) (lb := noA) 5 (fn := Tryz.f146) (xs := fun L => [.ref 500000 0]) (rts := fun _ => []) (O := fun L => [(500000, .box 137 [.nilp, .nils])]) (O1 := fun L => [(500000, .box 137 [.ref 500000 0, .nils])])
   rfl rfl (by kernel_rfl) (by kernel_rfl) (by kernel_rfl) zab (zau trivial ⟨zn0, trivial⟩) (by kernel_rfl) ?_
 intro L P' Q' hL hP hQ
 (cbv; try simp only [syT, true_and, and_true])
 exact ⟨fun _ => trivial, fun h => by cases h⟩
theorem yu4 (m : Nat) (get : Nat -> Nat -> AV) : zbg Tryz.prog 146 [.ref 500000 0] [(500000, .box 137 [.ref 500000 0, .sl 500001 1 0 m]), (500001, .row 5 1 m get)] (.tup []) [(500000, .box 137 [.ref 500000 0, .sl 500001 1 0 m]), (500001, .row 5 1 m get)] := by
 refine zb9 (T := tt) (S := fun L => zc3 [] [zl6]) (lo := noA) (lb := noA) 5 (fn := Tryz.f146) (xs := fun L => [.ref 500000 0]) (rts := fun _ => []) (O := fun L => [(500000, .box 137 [.ref 500000 0, .sl 500001 1 0 m]), (500001, .row 5 1 m get)]) (O1 := fun L => [(500000, .box 137 [.ref 500000 0, .sl 500001 1 0 m]), (500001, .row 5 1 m get)])
   rfl rfl (by kernel_rfl) (by kernel_rfl) (by kernel_rfl) zab (zau trivial ⟨zn0, trivial⟩) (by kernel_rfl) ?_
 intro L P' Q' hL hP hQ
 (cbv; try simp only [syT, true_and, and_true])
 subst hL
 simp [std]
theorem zm1 : zfz Tryz.prog ypo := by
 intro raw ob T hT hp
 unfold ypo at hT
 simp only at hT
 repeat' split at hT
 all_goals first | (cases hT; done) | (cases hT; exact yu5) | (cases hT; exact yu4 _ _)
def bld (L : za7) (l : List UInt8) : List (Nat × Ob) := [(500000, .box 137 [.ref 500000 0, .sl 500001 1 0 (L lenN l)]), (500001, .row 5 1 (L lenN l) (fun i _ => .int .u8 (L2 L za8 l i)))]
def zu3 (L : za7) (l : List UInt8) : List (Nat × Ob) := [(500000, .box 137 [.ref 500000 0, .sl 7 1 0 (L lenN l)]), (7, .row 5 1 (L lenN l) (fun i _ => .int .u8 (L2 L za8 l i)))]
def yqx : List (Nat × Ob) := [(500000, .box 137 [.nilp, .nils])]
def yft (L : za7) (ob : Nat -> Option Ob) (id : Nat) : Option (Option (List UInt8)) := match ob id with
 | some (.box _ [.nilp, .nils]) => some none
 | some (.box _ [.ref _ 0, .sl k 1 0 n]) => match ob k with
   | some (.row _ 1 m get) => some (some (L2 L zbc m (fun i => (get i 0).toI)))
   | _ => none
 | _ => none
def zad (l m : List UInt8) : List UInt8 := l ++ m
def zc8 (c : Int) : List UInt8 := [UInt8.ofNat c.toNat]
def yr9 (c : Int) : Prop := 0 <= c /\ c < 256
def zfa (l m : List UInt8) : Prop := l.length + m.length <= 90000000
def yun (L : za7) : znq := (135, fun raw ob => match raw with
 | [.ref id 0, .int .u8 c] => match yft L ob id with
   | some none => some ⟨[.ref 500000 0, .int .u8 c], yqx, L yr9 c, .dead, zu3 L (L zc8 c)⟩
   | some (some l) => some ⟨[.ref 500000 0, .int .u8 c], bld L l, L yr9 c /\ L2 L zfa l (L zc8 c), .dead, zu3 L (L2 L zad l (L zc8 c))⟩
   | none => none
 | _ => none)
def yum (L : za7) : znq := (136, fun raw ob => match raw with
 | [.ref id 0, .str s] => match yft L ob id with
   | some (some l) => some ⟨[.ref 500000 0, .str s], bld L l, L2 L zfa l s, .tup [.int .i64 (L slen s), .dead], zu3 L (L2 L zad l s)⟩
   | _ => none
 | _ => none)
def yxa (L : za7) : znq := (114, fun raw ob => match raw with
 | [.ref id 0] => match yft L ob id with
   | some (some l) => some ⟨[.ref 500000 0], bld L l, L (fun l => l ≠ [] /\ l.length <= 90000000) l, .str l, []⟩
   | _ => none
 | _ => none)
def yxc (L : za7) : znq := (113, fun raw ob => match raw with
 | [.ref id 0] => match yft L ob id with
   | some (some l) => some ⟨[.ref 500000 0], bld L l, True, .int .i64 (L slen l), bld L l⟩
   | _ => none
 | _ => none)
theorem zfn {l m : List UInt8} {i : Nat} (h : i < l.length) : za8 (l ++ m) i = za8 l i := by
 simp [za8, List.getElem?_append_left h]
theorem zkb {l m : List UInt8} {i : Nat} (h : ¬ i < l.length) : za8 (l ++ m) i = za8 m (i - l.length) := by
 simp [za8, List.getElem?_append_right (show l.length <= i by omega)]
theorem zgx (l : List UInt8) : zbc l.length (fun i => za8 l i) = l := by
 apply List.ext_getElem
 · simp [zbc]
 · intro i h1 h2
   simp [zbc, za8, h2]
theorem zwm {c : Int} (hc : yr9 c) (i : Nat) (h : i < 1) : zk1 [c] i = za8 (zc8 c) i := by
 have : i = 0 := by omega
 subst this
 obtain ⟨h0, h1⟩ := hc
 simp [zk1, za8, zc8, UInt8.toNat_ofNat']
 omega
theorem yr4 (c : Int) (hc : yr9 c) : zbg Tryz.prog 135 [.ref 500000 0, .int .u8 c] yqx .dead (zu3 std (zc8 c)) := by
 refine zb9 (T := tt) (S := fun L => zc3 [] [ypo]) (lo := noA) (lb := noA) 5 (fn := Tryz.f135) (xs := fun L => [.ref 500000 0, .int .u8 c]) (rts := fun _ => [.dead]) (O := fun L => yqx) (O1 := fun L => zu3 L (L zc8 c))
   rfl rfl (by kernel_rfl) (by kernel_rfl) (by kernel_rfl) zab (zau trivial ⟨zm1, trivial⟩) (by kernel_rfl) ?_
 intro L P' Q' hL hP hQ
 (cbv; try simp only [syT, true_and, and_true])
 subst hL
 simp only [L2, L3, std, zht]
 have h1 : lenN (zc8 c) = 1 := rfl
 rw [h1]
 exact ⟨by omega, ⟨rfl, fun i j hi hj => by rw [show Nat.add 0 i = i from Nat.zero_add i, zwm hc i hi]⟩, rfl⟩
theorem yr3 (l : List UInt8) (c : Int) (hc : yr9 c) (hl : zfa l (zc8 c)) : zbg Tryz.prog 135 [.ref 500000 0, .int .u8 c] (bld std l) .dead (zu3 std (zad l (zc8 c))) := by
 refine zb9 (T := tt) (S := fun L => zc3 [] [ypo]) (lo := noA) (lb := noA) 5 (fn := Tryz.f135) (xs := fun L => [.ref 500000 0, .int .u8 c]) (rts := fun _ => [.dead]) (O := fun L => bld L l) (O1 := fun L => zu3 L (L2 L zad l (L zc8 c)))
   rfl rfl (by kernel_rfl) (by kernel_rfl) (by kernel_rfl) zab (zau trivial ⟨zm1, trivial⟩) (by kernel_rfl) ?_
 intro L P' Q' hL hP hQ
 (cbv; try simp only [syT, true_and, and_true])
 subst hL
 simp only [L2, L3, std, zht]
 have h1 : lenN (zad l (zc8 c)) = l.length + 1 := by simp [lenN, zad, zc8]
 have h2 : (zc8 c).length = 1 := rfl
 have hl : l.length + (zc8 c).length <= 90000000 := hl
 have h3 : lenN l = l.length := rfl
 rw [h1, h3]
 refine ⟨fun _ _ _ _ => trivial, by omega, ⟨rfl, fun i j hi hj => ?_⟩, rfl⟩
 by_cases h : i < l.length
 · rw [zu2 h, show zad l (zc8 c) = l ++ zc8 c from rfl, zfn h]; rfl
 · rw [yfs h, show zad l (zc8 c) = l ++ zc8 c from rfl, zkb h]
   show AV.int .u8 (zk1 [c] (Nat.add 0 (i - l.length))) = _
   rw [show Nat.add 0 (i - l.length) = i - l.length from Nat.zero_add _, zwm hc _ (by omega)]
theorem yqz (l s : List UInt8) (hl : zfa l s) : zbg Tryz.prog 136 [.ref 500000 0, .str s] (bld std l) (.tup [.int .i64 (slen s), .dead]) (zu3 std (zad l s)) := by
 refine zb9 (T := tt) (S := fun L => zc3 [] [ypo]) (lo := noA) (lb := noA) 5 (fn := Tryz.f136) (xs := fun L => [.ref 500000 0, .str s]) (rts := fun L => [.int .i64 (L slen s), .dead]) (O := fun L => bld L l) (O1 := fun L => zu3 L (L2 L zad l s))
   rfl rfl (by kernel_rfl) (by kernel_rfl) (by kernel_rfl) zab (zau trivial ⟨zm1, trivial⟩) (by kernel_rfl) ?_
 intro L P' Q' hL hP hQ
 (cbv; try simp only [syT, true_and, and_true])
 subst hL
 simp only [L2, L3, std, zht]
 have h1 : lenN (zad l s) = l.length + s.length := by simp [lenN, zad]
 have hl : l.length + s.length <= 90000000 := hl
 have h3 : lenN l = l.length := rfl
 rw [h1, h3]
 refine ⟨fun _ _ _ _ => trivial, by omega, ⟨rfl, fun i j hi hj => ?_⟩, rfl⟩
 by_cases h : i < l.length
 · rw [zu2 h, show zad l s = l ++ s from rfl, zfn h]; rfl
 · rw [yfs h, show zad l s = l ++ s from rfl, zkb h]; rfl
theorem yu9 (l : List UInt8) (h0 : l ≠ []) (hl : l.length <= 90000000) : zbg Tryz.prog 114 [.ref 500000 0] (bld std l) (.str l) [] := by
 refine zb9 (T := tt) (S := fun L => zc3 [] [ypo]) (lo := noA) (lb := noA) 5 (fn := Tryz.f114) (xs := fun L => [.ref 500000 0]) (rts := fun L => [.str l]) (O := fun L => bld L l) (O1 := fun L => [])
   rfl rfl (by kernel_rfl) (by kernel_rfl) (by kernel_rfl) zab (zau trivial ⟨zm1, trivial⟩) (by kernel_rfl) ?_
 intro L P' Q' hL hP hQ
 (cbv; try simp only [syT, true_and, and_true])
 subst hL
 simp only [L2, L3, std]
 have h3 : lenN l = l.length := rfl
 have h1 : 0 < l.length := List.length_pos_iff.2 h0
 refine ⟨zu2 h1, ⟨by show (0 : Int) < (l.length : Int); omega, by show (l.length : Int) <= (l.length : Int); omega, by show (l.length : Int) <= _; omega, fun i hi => ⟨_, rfl, ?_, ?_⟩⟩, zgx l⟩
 · simp [za8]
 · have := UInt8.toNat_lt (l.getD i 0)
   show ((l.getD i 0).toNat : Int) < 256
   omega
theorem yub (l : List UInt8) : zbg Tryz.prog 113 [.ref 500000 0] (bld std l) (.int .i64 (slen l)) (bld std l) := by
 refine zb9 (T := tt) (S := fun L => zc3 [] [ypo]) (lo := noA) (lb := noA) 5 (fn := Tryz.f113) (xs := fun L => [.ref 500000 0]) (rts := fun L => [.int .i64 (L slen l)]) (O := fun L => bld L l) (O1 := fun L => bld L l)
   rfl rfl (by kernel_rfl) (by kernel_rfl) (by kernel_rfl) zab (zau trivial ⟨zm1, trivial⟩) (by kernel_rfl) ?_
 intro L P' Q' hL hP hQ
 (cbv; try simp only [syT, true_and, and_true])
 subst hL
 exact ⟨fun _ _ _ _ => trivial, rfl⟩
theorem ya0 : zfz Tryz.prog (yun std) := by
 intro raw ob T hT hp
 unfold yun at hT
 simp only at hT
 repeat' split at hT
 all_goals first | (cases hT; done) | (cases hT; exact yr4 _ hp) | (cases hT; exact yr3 _ _ hp.1 hp.2)
theorem zzu : zfz Tryz.prog (yum std) := by
 intro raw ob T hT hp
 unfold yum at hT
 simp only at hT
 repeat' split at hT
 all_goals first | (cases hT; done) | (cases hT; exact yqz _ _ hp)
theorem yq4 : zfz Tryz.prog (yxa std) := by
 intro raw ob T hT hp
 unfold yxa at hT
 simp only at hT
 repeat' split at hT
 all_goals first | (cases hT; done) | (cases hT; exact yu9 _ hp.1 hp.2)
theorem yq6 : zfz Tryz.prog (yxc std) := by
 intro raw ob T hT hp
 unfold yxc at hT
 simp only at hT
 repeat' split at hT
 all_goals first | (cases hT; done) | (cases hT; exact yub _)
inductive CV where
 | mk (k n : Int) (s : List UInt8) (l : List CV)
namespace CV
def kd : CV -> Int
 | mk k _ _ _ => k
def nn : CV -> Int
 | mk _ n _ _ => n
def tx : CV -> List UInt8
 | mk _ _ s _ => s
def ls : CV -> List CV
 | mk _ _ _ l => l
theorem eta (v : CV) : mk v.kd v.nn v.tx v.ls = v := by cases v; rfl
end CV
def zdm (l : List CV) (i : Nat) : CV := l.getD i (.mk 0 0 [] [])
def lenL (l : List CV) : Nat := l.length
def zm8 (v : CV) : Nat := v.ls.length
def sizeC : CV -> Nat
 | .mk _ _ _ l => sizeCs l + 1
where sizeCs : List CV -> Nat
 | [] => 0
 | v :: l => sizeC v + sizeCs l
abbrev sizeCs := sizeC.sizeCs
theorem zck : sizeCs [] = 0 := by simp [sizeC.sizeCs]
theorem zbi (v : CV) (l : List CV) : sizeCs (v :: l) = sizeC v + sizeCs l := by simp [sizeC.sizeCs]
theorem zcq (k n : Int) (s : List UInt8) (l : List CV) : sizeC (.mk k n s l) = sizeCs l + 1 := by rw [sizeC]
theorem zer (v : CV) : 0 < sizeC v := by cases v; rw [zcq]; omega
theorem zkn : ∀ (l : List CV) (i : Nat), i < l.length -> sizeC (zdm l i) <= sizeCs l
 | [], i, h => by simp at h
 | v :: l, 0, h => by rw [zbi]; show sizeC v <= _; omega
 | v :: l, i + 1, h => by
   have := zkn l i (by simpa using h)
   rw [zbi]
   show sizeC (zdm l i) <= _
   omega
theorem zva {l : List CV} {i : Nat} (h : i < l.length) : zdm l i ∈ l := by
 rw [zdm, List.getD_eq_getElem?_getD, List.getElem?_eq_getElem h]; exact List.getElem_mem h
theorem yll {p : CV -> Prop} (h : ∀ k n s l, (∀ v ∈ l, p v) -> p (.mk k n s l)) : ∀ (m : Nat) (v : CV), sizeC v <= m -> p v
 | 0, v, hv => by have := zer v; omega
 | m + 1, .mk k n s l, hv => h k n s l fun w hw => by
   rw [zcq] at hv
   obtain ⟨i, hi, rfl⟩ := List.getElem_of_mem hw
   have := zkn l i hi
   have e : zdm l i = l[i] := by rw [zdm, List.getD_eq_getElem?_getD, List.getElem?_eq_getElem hi]; rfl
   rw [e] at this
   exact yll h m _ (by omega)
theorem yet {p : CV -> Prop} (h : ∀ k n s l, (∀ v ∈ l, p v) -> p (.mk k n s l)) (v : CV) : p v := yll h _ v (Nat.le_refl _)
def dflC : Nat -> AV
 | 0 => .int .i64 0
 | 1 => .int .u64 0
 | 2 => .str []
 | _ => .lst 4 0 (fun _ _ => .dead)
mutual
def ze5 : CV -> Nat -> AV
 | .mk k n s l, j => match j with
   | 0 => .int .i64 k
   | 1 => .int .u64 n
   | 2 => .str s
   | _ => .lst 4 l.length (zid l)
def zid : List CV -> Nat -> Nat -> AV
 | [], _, j => dflC j
 | v :: l, i, j => match i with
   | 0 => ze5 v j
   | i + 1 => zid l i j
end
theorem zfm (v : CV) : ze5 v 0 = .int .i64 v.kd := by cases v; rw [ze5]; rfl
theorem zfl (v : CV) : ze5 v 1 = .int .u64 v.nn := by cases v; rw [ze5]; rfl
theorem zfk (v : CV) : ze5 v 2 = .str v.tx := by cases v; rw [ze5]; rfl
theorem zfj (v : CV) : ze5 v 3 = .lst 4 v.ls.length (zid v.ls) := by cases v; rw [ze5] <;> first | rfl | (intro h; cases h)
theorem zbr : ∀ (l : List CV) (i j : Nat), i < l.length -> zid l i j = ze5 (zdm l i) j
 | [], i, j, h => by simp at h
 | v :: l, 0, j, h => by rw [zid]; rfl
 | v :: l, i + 1, j, h => by rw [zid]; exact zbr l i j (by simpa using h)
def zk9 (v : CV) : Nat -> Nat -> AV := zid v.ls
def cv1 (L : za7) (v : CV) : Nat -> AV
 | 0 => .int .i64 (L CV.kd v)
 | 1 => .int .u64 (L CV.nn v)
 | 2 => .str (L CV.tx v)
 | _ => .lst 4 (L zm8 v) (L zk9 v)
theorem zts (v : CV) (j : Nat) (h : j < 4) : cv1 std v j = ze5 v j := by
 match j, h with
 | 0, _ => rw [zfm]; rfl
 | 1, _ => rw [zfl]; rfl
 | 2, _ => rw [zfk]; rfl
 | 3, _ => rw [zfj]; rfl
def cvL (L : za7) (l : List CV) : AV := .lst 4 (L lenL l) (fun i j => cv1 L (L2 L zdm l i) j)
def cvA (L : za7) (v : CV) : AV := .agg [.int .i64 (L CV.kd v), .int .u64 (L CV.nn v), .str (L CV.tx v), .lst 4 (L zm8 v) (L zk9 v)]
def rdL : AV -> List CV
 | .lst _ n get => (List.range n).map fun i => .mk (get i 0).toI (get i 1).toI (match get i 2 with | .str s => s | _ => []) (rdL (get i 3))
 | _ => []
def okL : AV -> Prop
 | .lst sz n get => sz = 4 /\ ∀ i, i < n -> (∃ x, get i 0 = .int .i64 x) /\ (∃ x, get i 1 = .int .u64 x) /\ (∃ x, get i 2 = .str x) /\ okL (get i 3)
 | .nils => True
 | _ => False
theorem zkt (sz n : Nat) (get : Nat -> Nat -> AV) : (rdL (.lst sz n get)).length = n := by simp [rdL]
theorem zuo {sz n : Nat} {get : Nat -> Nat -> AV} {i : Nat} (h : i < n) : zdm (rdL (.lst sz n get)) i = .mk (get i 0).toI (get i 1).toI (match get i 2 with | .str s => s | _ => []) (rdL (get i 3)) := by
 rw [zdm, List.getD_eq_getElem?_getD, rdL]
 simp [h]
theorem ylm {a b : List CV} (h : a.length = b.length) (k : ∀ i, i < a.length -> zdm a i = zdm b i) : a = b := by
 apply List.ext_getElem h
 intro i h1 h2
 have := k i h1
 rw [zdm, zdm, List.getD_eq_getElem?_getD, List.getD_eq_getElem?_getD, List.getElem?_eq_getElem h1, List.getElem?_eq_getElem h2] at this
 exact this
theorem ymt : ∀ v : CV, rdL (ze5 v 3) = v.ls /\ okL (ze5 v 3) := by
 refine yet fun k n s l ih => ?_
 rw [zfj]
 show rdL (.lst 4 l.length (zid l)) = l /\ okL (.lst 4 l.length (zid l))
 refine ⟨ylm (zkt _ _ _) fun i hi => ?_, rfl, fun i hi => ?_⟩
 · rw [zkt] at hi
   rw [zuo hi, zbr _ _ _ hi, zbr _ _ _ hi, zbr _ _ _ hi, zbr _ _ _ hi, zfm, zfl, zfk, (ih _ (zva hi)).1]
   exact CV.eta _
 · rw [zbr _ _ _ hi, zbr _ _ _ hi, zbr _ _ _ hi, zbr _ _ _ hi, zfm, zfl, zfk]
   exact ⟨⟨_, rfl⟩, ⟨_, rfl⟩, ⟨_, rfl⟩, (ih _ (zva hi)).2⟩
theorem zku (v : CV) : rdL (.lst 4 (zm8 v) (zk9 v)) = v.ls /\ okL (.lst 4 (zm8 v) (zk9 v)) := by
 have := ymt v
 rw [zfj] at this
 exact this
theorem ybt (l : List CV) : rdL (cvL std l) = l /\ okL (cvL std l) := by
 refine ⟨ylm (zkt _ _ _) fun i hi => ?_, rfl, fun i hi => ⟨⟨_, rfl⟩, ⟨_, rfl⟩, ⟨_, rfl⟩, (zku _).2⟩⟩
 have hi : i < l.length := by rw [show (rdL (cvL std l)).length = lenL l from zkt _ _ _] at hi; exact hi
 show zdm (rdL (.lst 4 (lenL l) _)) i = _
 rw [zuo (show i < lenL l from hi)]
 show CV.mk (zdm l i).kd (zdm l i).nn (zdm l i).tx (rdL (.lst 4 (zm8 (zdm l i)) (zk9 (zdm l i)))) = _
 rw [(zku _).1, CV.eta]
theorem ys3 {h : Array Obj} {D : Nat -> Prop} : ∀ (x : AV) {μ : Mu} {v : Value}, okL x -> R h D μ x v -> R h D μ (.lst 4 (rdL x).length (zid (rdL x))) v := by
 intro x μ v ho r
 induction r with
 | nils => exact .lst0 _ _ _ _ (fun _ => rfl)
 | lst0 sz get a cap hn => exact .lst0 _ _ _ _ hn
 | lst sz n get b o cap vs hD hc hv h1 hr ih =>
   obtain ⟨rfl, ho⟩ := ho
   rw [zkt]
   refine .lst _ _ _ b o cap vs hD hc hv h1 (fun i j hi hj => ?_)
   rw [zbr _ _ _ (by rw [zkt]; exact hi), zuo hi]
   obtain ⟨⟨x0, e0⟩, ⟨x1, e1⟩, ⟨x2, e2⟩, o3⟩ := ho i hi
   have hj' := hr i j hi hj
   match j, hj with
   | 0, _ => rw [zfm]; rw [e0] at hj' |-; exact hj'
   | 1, _ => rw [zfl]; rw [e1] at hj' |-; exact hj'
   | 2, _ => rw [zfk]; rw [e2] at hj' |-; exact hj'
   | 3, _ => rw [zfj]; exact ih i 3 hi (by omega) o3
 | _ => exact ho.elim
theorem ytz {h : Array Obj} {D : Nat -> Prop} {μ : Mu} {l : List CV} {v : Value} (r : R h D μ (.lst 4 l.length (zid l)) v) : R h D μ (cvL std l) v :=
 yif r fun i j hi hj => by
   rw [zbr _ _ _ hi]
   exact (zts _ j hj).symm
mutual
def zdf : CV -> Int
 | .mk k _ _ l => if k = 3 then zb2 l + 1 else 0
def zb2 : List CV -> Int
 | [] => 0
 | v :: l => max (zdf v) (zb2 l)
end
theorem zni : ∀ a b : List CV, zb2 (a ++ b) = max (zb2 a) (zb2 b)
 | [], b => by
   rw [List.nil_append, zb2]
   have : ∀ b : List CV, 0 <= zb2 b := by
     intro b
     induction b with
     | nil => rw [zb2]; omega
     | cons v l ih => rw [zb2]; omega
   have := this b
   omega
 | v :: a, b => by rw [List.cons_append, zb2, zni a b, zb2]; omega
theorem zuf {l : List CV} {i : Nat} (h : i < l.length) : l.take (i + 1) = l.take i ++ [zdm l i] := by
 rw [List.take_succ_eq_append_getElem h, zdm, List.getD_eq_getElem?_getD, List.getElem?_eq_getElem h]; rfl
def zh1 (l : List CV) (i : Nat) : Int := zb2 (l.take i)
theorem ztq {l : List CV} {i : Nat} (h : i < l.length) : zh1 l (i + 1) = max (zh1 l i) (zdf (zdm l i)) := by
 unfold zh1
 rw [zuf h, zni, zb2, zb2]
 have : 0 <= zdf (zdm l i) \/ True := .inr trivial
 have h0 : ∀ b : List CV, 0 <= zb2 b := by
   intro b
   induction b with
   | nil => rw [zb2]; omega
   | cons v l ih => rw [zb2]; omega
 have := h0 (l.take i)
 omega
mutual
def zfo : CV -> Bool
 | .mk k n s l => if k = 1 then decide (s = []) && l.isEmpty else if k = 2 then decide (n = 0) && l.isEmpty else if k = 3 then decide (n = 0) && decide (s = []) && zdi l else false
def zdi : List CV -> Bool
 | [] => true
 | v :: l => zfo v && zdi l
end
def zgf (k : Int) : List UInt8 := [UInt8.ofNat (k % 256).toNat]
mutual
def zbv : CV -> List UInt8
 | .mk k n s l => zgf k ++ if k = 1 then zb6 n else if k = 2 then zb6 s.length ++ s else zb6 l.length ++ zb1 l
def zb1 : List CV -> List UInt8
 | [] => []
 | v :: l => zbv v ++ zb1 l
end
theorem zit : ∀ a b : List CV, zb1 (a ++ b) = zb1 a ++ zb1 b
 | [], b => by rw [zb1]; rfl
 | v :: a, b => by rw [List.cons_append, zb1, zit a b, zb1, List.append_assoc]
def zh0 (l : List CV) (i : Nat) : List UInt8 := zb1 (l.take i)
theorem zdw {l : List CV} {i : Nat} (h : i < l.length) : zh0 l (i + 1) = zh0 l i ++ zbv (zdm l i) := by
 unfold zh0
 rw [zuf h, zit, zb1, zb1, List.append_nil]
def mkV (L : za7) (k n : Int) (s : List UInt8) (x : AV) : CV := L (L (L (L CV.mk k) n) s) (L rdL x)
def zpp (N : Nat) (v : CV) : Prop := sizeC v <= N /\ N <= 1000000
def zs0 (N : Nat) (l : List CV) : Prop := sizeCs l <= N /\ N <= 1000000
theorem zn4 : ∀ l : List CV, l.length <= sizeCs l
 | [] => by simp
 | v :: l => by
   have := zn4 l
   have := zer v
   rw [zbi, List.length_cons]; omega
theorem zv9 {N : Nat} {l : List CV} {i : Nat} (h : zs0 N l) (hi : i < l.length) : zpp N (zdm l i) := by
 have := zkn l i hi
 exact ⟨by have := h.1; omega, h.2⟩
theorem zcf {N : Nat} {k n : Int} {s : List UInt8} {l : List CV} : zpp (N + 1) (.mk k n s l) = (zs0 N l /\ N + 1 <= 1000000) := by
 unfold zpp zs0
 rw [zcq]
 exact propext ⟨fun h => ⟨⟨by omega, by omega⟩, by omega⟩, fun h => ⟨by have := h.1.1; omega, h.2⟩⟩
theorem zdn (v : CV) : CV.mk v.kd v.nn v.tx (rdL (.lst 4 (zm8 v) (zk9 v))) = v := by rw [(zku v).1]; exact CV.eta v
theorem zby (v : CV) : mkV std v.kd v.nn v.tx (.lst 4 (zm8 v) (zk9 v)) = v := zdn v
theorem rdl (l : List CV) : rdL (.lst 4 (lenL l) fun i => cv1 std (zdm l i)) = l := (ybt l).1
theorem okl (l : List CV) : okL (.lst 4 (lenL l) fun i => cv1 std (zdm l i)) := (ybt l).2
theorem mkl (k n : Int) (s : List UInt8) (l : List CV) : mkV std k n s (.lst 4 (lenL l) fun i => cv1 std (zdm l i)) = .mk k n s l := by
 show CV.mk k n s (rdL _) = _
 rw [rdl]
theorem ylw {h : Array Obj} {D : Nat -> Prop} {μ : Mu} {a b c x : AV} {v : Value} (ho : okL x) (r : R h D μ (.agg [a, b, c, x]) v) : R h D μ (.agg [a, b, c, cvL std (rdL x)]) v := by
 obtain ⟨us, rfl, o1, s1, hr⟩ := r.inv_agg
 refine .agg _ _ (by rw [<- s1]; rfl) o1 fun i y v hy hv => ?_
 match i, hy with
 | 0, hy => cases hy; exact hr 0 _ v rfl hv
 | 1, hy => cases hy; exact hr 1 _ v rfl hv
 | 2, hy => cases hy; exact hr 2 _ v rfl hv
 | 3, hy => cases hy; exact ytz (ys3 x ho (hr 3 _ v rfl hv))
 | i + 4, hy => simp at hy
theorem yvq {h : Array Obj} {D : Nat -> Prop} {μ : Mu} {x y : AV} {r : List AV} {vs : Array Value} (e : ∀ v, R h D μ x v -> R h D μ y v) (hr : RL h D μ (x :: r) vs) : RL h D μ (y :: r) vs := by
 refine ⟨by rw [<- hr.1]; rfl, fun i z v hz hv => ?_⟩
 cases i with
 | zero => cases hz; exact e v (hr.2 0 x v rfl hv)
 | succ i => exact hr.2 (i + 1) z v hz hv
theorem rl_2 {h : Array Obj} {D : Nat -> Prop} {μ : Mu} {a x y : AV} {r : List AV} {vs : Array Value} (e : ∀ v, R h D μ x v -> R h D μ y v) (hr : RL h D μ (a :: x :: r) vs) : RL h D μ (a :: y :: r) vs := by
 refine ⟨by rw [<- hr.1]; rfl, fun i z v hz hv => ?_⟩
 match i, hz with
 | 0, hz => exact hr.2 0 z v hz hv
 | 1, hz => cases hz; exact e v (hr.2 1 x v rfl hv)
 | i + 2, hz => exact hr.2 (i + 2) z v hz hv
theorem zpi {P : Program} {f : FuncId} {xs ys : List AV} {r : AV} (h : ∀ h D vs, RL h D zas xs vs -> RL h D zas ys vs) (ha : za9 P f ys r) : za9 P f xs r := fun D w vs hD hx => ha D w vs hD (h _ _ _ hx)
theorem yv7 {P : Program} {f : FuncId} {a b c x r : AV} (ho : okL x) (h : za9 P f [.agg [a, b, c, cvL std (rdL x)]] r) : za9 P f [.agg [a, b, c, x]] r :=
 zpi (fun h D vs hr => yvq (fun v => ylw ho) hr) h
theorem ysq {h : Array Obj} {D : Nat -> Prop} {μ : Mu} {x : AV} {v : Value} (ho : okL x) (r : R h D μ x v) : R h D μ (cvL std (rdL x)) v := ytz (ys3 x ho r)
theorem yv8 {P : Program} {f : FuncId} {x r : AV} {q : List AV} (ho : okL x) (h : za9 P f (cvL std (rdL x) :: q) r) : za9 P f (x :: q) r :=
 zpi (fun h D vs hr => yvq (fun v => ysq ho) hr) h
def yww (L : za7) (l : List CV) : Nat -> St -> Option Ann := fun id s => match id with
 | 0 => some ⟨Nat, fun i => [(12, .int .i64 (L zac i)), (3, .int .i64 (L2 L zh1 l i))], fun i => [], [10, 11], [],
     fun i => L2 L (fun (l : List CV) i => i <= l.length) l i, fun i => L2 L (fun (l : List CV) (i : Nat) => l.length - i) l i⟩
 | _ => none
def zr9 (N : Nat) (L : za7) : zbf := (111, fun xs => match xs with
 | [.agg [.int .i64 k, .int .u64 n, .str s, x]] => some (L okL x /\ L2 L zpp N (mkV L k n s x), .int .i64 (L zdf (mkV L k n s x)))
 | _ => none)
theorem ypd : ∀ v, 0 <= zdf v /\ zdf v <= (sizeC v : Int) := by
 refine yet fun k n s l ih => ?_
 have : ∀ m : List CV, (∀ v ∈ m, 0 <= zdf v /\ zdf v <= (sizeC v : Int)) -> 0 <= zb2 m /\ zb2 m <= (sizeCs m : Int) := by
   intro m
   induction m with
   | nil => intro _; rw [zb2, zck]; omega
   | cons v m ih =>
     intro h
     have h1 := h v (by simp)
     have h2 := ih fun w hw => h w (by simp [hw])
     rw [zb2, zbi]; omega
 have := this l ih
 rw [zdf, zcq]
 split <;> omega
theorem yeo (l : List CV) (i : Nat) : 0 <= zh1 l i /\ zh1 l i <= (sizeCs l : Int) := by
 have h1 : ∀ m : List CV, 0 <= zb2 m /\ zb2 m <= (sizeCs m : Int) := by
   intro m
   induction m with
   | nil => rw [zb2, zck]; omega
   | cons v m ih => have := ypd v; rw [zb2, zbi]; omega
 have h2 := h1 (l.take i)
 have h3 : ∀ (m : List CV) (i : Nat), sizeCs (m.take i) <= sizeCs m := by
   intro m
   induction m with
   | nil => intro i; simp
   | cons v m ih =>
     intro i
     cases i with
     | zero => rw [List.take_zero, zck]; omega
     | succ i => have := ih i; rw [List.take_succ_cons, zbi, zbi]; omega
 have := h3 l i
 exact ⟨h2.1, by unfold zh1; omega⟩
theorem yen : ∀ N, zaz Tryz.prog (zr9 N std) := by
 intro N
 induction N with
 | zero =>
   intro xs p r h hp
   unfold zr9 at h
   simp only at h
   split at h
   · rename_i k n s x
     cases h
     have h1 : sizeC (mkV std k n s x) <= 0 := hp.2.1
     have := zer (mkV std k n s x)
     omega
   · cases h
 | succ N ih =>
   intro xs p r h hp
   unfold zr9 at h
   simp only at h
   split at h
   · rename_i k n s x
     cases h
     obtain ⟨ho, hz⟩ := hp
     refine yv7 ho ?_
     show za9 _ _ _ (.int .i64 (zdf (.mk k n s (rdL x))))
     have hz : zpp (N + 1) (.mk k n s (rdL x)) := hz
     generalize rdL x = l at hz |-
     refine za5 (T := tt) (S := fun L => zam [zr9 N L]) (lo := fun L => yww L l) (lb := noA) 5 (fn := Tryz.f111) (xs := fun L => [.agg [.int .i64 k, .int .u64 n, .str s, cvL L l]]) rfl rfl (by kernel_rfl) (by kernel_rfl) rfl zab
       (za2 ⟨ih, trivial⟩) (by kernel_rfl) ?_
     intro L P' Q' hL hP hQ
     (cbv; try simp only [syT, true_and, and_true])
     refine ⟨fun h => ?_, fun h => ⟨⟨0, ?_⟩, fun i hi => ?_⟩⟩
     · (subst hL; subst hQ; simp only [L2, L3, std] at *; try simp only [syS, reduceCtorEq, Int.reduceToNat, Int.reduceAdd, Int.reduceSub] at *)
       rw [zdf, if_neg h]
     · (cbv; try simp only [syT, true_and, and_true])
       (subst hL; subst hQ; simp only [L2, L3, std] at *; try simp only [syS, reduceCtorEq, Int.reduceToNat, Int.reduceAdd, Int.reduceSub] at *)
       exact ⟨by rw [zh1, List.take_zero, zb2], Nat.zero_le _⟩
     · cbv at hi
       (cbv; try simp only [syT, true_and, and_true])
       refine ⟨fun hlt => ⟨?_, ⟨?_, ?_⟩, ⟨i + 1, ?_⟩⟩, fun hge => ?_⟩
       · (subst hL; subst hQ; simp only [L2, L3, std] at *; try simp only [syS, reduceCtorEq, Int.reduceToNat, Int.reduceAdd, Int.reduceSub] at *)
         omega
       · (subst hL; subst hQ; simp only [L2, L3, std] at *; try simp only [syS, reduceCtorEq, Int.reduceToNat, Int.reduceAdd, Int.reduceSub] at *)
         exact (zku _).2
       · (subst hL; subst hQ; simp only [L2, L3, std] at *; try simp only [syS, reduceCtorEq, Int.reduceToNat, Int.reduceAdd, Int.reduceSub] at *)
         rw [zdn]
         rw [zcf] at hz
         exact zv9 hz.1 (by have : lenL l = l.length := rfl; omega)
       · (cbv; try simp only [syT, true_and, and_true])
         (subst hL; subst hQ; simp only [L2, L3, std] at *; try simp only [syS, reduceCtorEq, Int.reduceToNat, Int.reduceAdd, Int.reduceSub] at *)
         have : lenL l = l.length := rfl
         have := zn4 l
         have h1 := hz.1
         have h2 := hz.2
         rw [zcq] at h1
         rw [zby]
         exact ⟨by rw [ztq (by omega)], by omega, by omega, by omega⟩
       · (subst hL; subst hQ; simp only [L2, L3, std] at *; try simp only [syS, reduceCtorEq, Int.reduceToNat, Int.reduceAdd, Int.reduceSub] at *)
         have : lenL l = l.length := rfl
         have hil : i = l.length := by omega
         have h3 := yeo l i
         have h1 := hz.1
         have h2 := hz.2
         rw [zcq] at h1
         rw [zdf, if_pos h, hil, zh1, List.take_length]
         rw [hil, zh1, List.take_length] at h3
         omega
   · cases h
def okG {α : Type} (V : Vw α) : AV -> Prop
 | .agg cs => cs.length = V.sz /\ V.ok (fun j => zbo .dead cs j)
 | _ => False
def rdG {α : Type} (V : Vw α) : AV -> α
 | .agg cs => V.rd (fun j => zbo .dead cs j)
 | _ => V.d
theorem yd4 (cs : List AV) (j : Nat) : zbo .dead cs j = (cs[j]?).getD .dead := by
 induction cs generalizing j with
 | nil => cases j <;> rfl
 | cons x l ih => cases j with
   | zero => rfl
   | succ j => exact ih j
theorem gK {α : Type} {V : Vw α} (K : zrv V) (x : α) (cs : List AV) (h : cs = (List.range V.sz).map (V.cell std x)) : okG V (.agg cs) /\ rdG V (.agg cs) = x := by
 have h1 : ∀ j, j < V.sz -> zbo .dead cs j = V.cell std x j := fun j hj => by rw [yd4, h]; simp [hj]
 have h2 := K.back _ x h1
 exact ⟨⟨by simp [h], h2.1⟩, h2.2⟩
theorem G_R {α : Type} {V : Vw α} (K : zrv V) {x : AV} (ho : okG V x) {h : Array Obj} {D : Nat -> Prop} {μ : Mu} {v : Value} (r : R h D μ x v) : R h D μ (.agg ((List.range V.sz).map (V.cell std (rdG V x)))) v := by
 match x, ho with
 | .agg cs, ho =>
   obtain ⟨us, rfl, o1, s1, hr⟩ := r.inv_agg
   refine .agg _ _ (by rw [<- s1]; simp [ho.1]) o1 fun i y w hy hw => ?_
   have hi : i < V.sz := by
     have := (List.getElem?_eq_some_iff.1 hy).1
     simpa using this
   simp [hi] at hy
   subst hy
   have hc : cs[i]? = some (zbo .dead cs i) := by
     rw [yd4, List.getElem?_eq_getElem (by rw [ho.1]; exact hi)]; rfl
   exact K.turn _ ho.2 i hi _ _ _ _ (hr i _ w hc hw)
theorem zws {α : Type} {V : Vw α} (K : zrv V) {P : Program} {f : FuncId} {x r : AV} {q : List AV} (ho : okG V x) (h : za9 P f (.agg ((List.range V.sz).map (V.cell std (rdG V x))) :: q) r) : za9 P f (x :: q) r :=
 zpi (fun h D vs hr => yvq (fun v => G_R K ho) hr) h
theorem ykz {α : Type} {V : Vw α} (K : zrv V) {P : Program} {f : FuncId} {id ty n : Nat} {get : Nat -> Nat -> AV} {xs : List AV} {O : List (Nat × Ob)} {r : AV} {O1 : List (Nat × Ob)} (ho : okW V (.lst V.sz n get))
   (h : zbg P f xs ((id, .row ty V.sz n (yt9 std V (rdW V (.lst V.sz n get)))) :: O) r O1) : zbg P f xs ((id, .row ty V.sz n get) :: O) r O1 := by
 intro D w μ vs hD hxs hdom hobs hinj hown hg hgb
 have e1 : ∀ i, za1 ((id, Ob.row ty V.sz n (yt9 std V (rdW V (.lst V.sz n get)))) :: O) i = none ↔ za1 ((id, Ob.row ty V.sz n get) :: O) i = none := by
   intro i
   simp only [za1]
   cases zap id i <;> simp
 have hcall := h D w μ vs hD hxs (fun i => (hdom i).trans (e1 i).symm) (fun i o x ho1 hx => ?_) hinj hown hg hgb
 · unfold ze7 at hcall |-
   have key : ∀ e w', (∃ v D' μ', yqi D w μ ((id, .row ty V.sz n (yt9 std V (rdW V (.lst V.sz n get)))) :: O) O1 r e v w' D' μ') -> ∃ v D' μ', yqi D w μ ((id, .row ty V.sz n get) :: O) O1 r e v w' D' μ' := by
     rintro e w' ⟨v, D', μ', m⟩
     exact ⟨v, D', μ', { m with keep := fun i h1 h2 => m.keep i (fun h3 => h1 ((e1 i).1 h3)) h2 }⟩
   split at hcall
   · exact hcall.mono fun e w' h => key e w' h
   · exact key _ _ hcall
   · exact hcall.elim
 · simp only [za1] at ho1
   by_cases hi : id = i
   · subst hi
     rw [za4] at ho1
     cases ho1
     have := hobs id (.row ty V.sz n get) x (by simp [za1, za4]) hx
     match x, this with
     | some (b, z, m), ⟨r0, c, t, fr, e, r1, r2, r3, r4⟩ =>
       refine ⟨r0, c, t, fr, e, r1, r2, r3, fun i j hi hj => ?_⟩
       obtain ⟨v, v1, v2, v3⟩ := r4 i j hi hj
       refine ⟨v, v1, v2, ?_⟩
       show R w.heap D zas (V.cell std (zik V (rdW V (.lst V.sz n get)) i) j) v
       rw [ybu hi]
       exact K.turn _ (ho.2 i hi) j hj _ _ _ _ v3
     | none, h0 => exact h0
   · rw [zai hi] at ho1
     exact hobs i o x (by simp [za1, zai hi, ho1]) hx
def upN (n : Nat) : Prop := n <= 1000000
theorem ymg (c : Bool) (x y : AV) : zpk c x y = if c = true then x else y := by cases c <;> rfl
theorem yav (off n e : Nat) : (zdb off n e = true) = (off <= e /\ e < off + n) := by simp [zdb, zbu, zbm]
def fOf (n : Int) : Nat := FloatKind.f64.nearest n
def zw8 (n : Nat) : Nat := n * 2 ^ (52 - n.log2)
theorem zls {n : Nat} (h0 : 0 < n) (h : n < 2 ^ 53) : 2 ^ 52 <= zw8 n /\ zw8 n < 2 ^ 53 /\ n.log2 <= 52 := by
 have h1 := Nat.log2_self_le (n := n) (by omega)
 have h2 := Nat.lt_log2_self (n := n)
 have hl : n.log2 <= 52 := by
   have := (Nat.log2_lt (n := n) (k := 53) (by omega)).2 h
   omega
 refine ⟨?_, ?_, hl⟩
 · calc 2 ^ 52 = 2 ^ n.log2 * 2 ^ (52 - n.log2) := by rw [<- Nat.pow_add]; congr 1; omega
     _ <= zw8 n := Nat.mul_le_mul_right _ h1
 · calc zw8 n < 2 ^ (n.log2 + 1) * 2 ^ (52 - n.log2) := Nat.mul_lt_mul_of_pos_right h2 (Nat.two_pow_pos _)
     _ = 2 ^ 53 := by rw [<- Nat.pow_add]; congr 1; omega
theorem ywx (neg : Bool) (n : Nat) : Ieee.Toward.even.cut neg n 0 = n := by
 unfold Ieee.Toward.cut
 simp [Nat.mod_one]
theorem zw7 {n : Nat} (h0 : 0 < n) (h : n < 2 ^ 53) : fOf n = (n.log2 + 1022) * 2 ^ 52 + zw8 n := by
 obtain ⟨h1, h2, h3⟩ := zls h0 h
 have e1 : fOf n = Ieee.double.nearest (decide ((n : Int) < 0)) n 0 := rfl
 rw [e1, decide_eq_false (by omega)]
 unfold Ieee.Format.nearest
 rw [if_neg (by omega)]
 have hl : max ((0 : Int) + (n.log2 : Int) - ((Ieee.double.fractionBits : Nat) : Int)) Ieee.double.leastPlace = (n.log2 : Int) - 52 := by
   have e1 : Ieee.double.leastPlace = -1074 := by decide
   have e2 : ((Ieee.double.fractionBits : Nat) : Int) = 52 := rfl
   rw [e1, e2]; omega
 simp only [hl]
 rw [show ((n.log2 : Int) - 52 - 0).toNat = 0 by omega, ywx, show ((0 : Int) - ((n.log2 : Int) - 52)).toNat = 52 - n.log2 by omega, Nat.shiftLeft_eq]
 have e3 : ((n.log2 : Int) - 52 - Ieee.double.leastPlace).toNat = n.log2 + 1022 := by
   have e1 : Ieee.double.leastPlace = -1074 := by decide
   rw [e1]; omega
 rw [e3]
 show Ieee.double.word false (min ((n.log2 + 1022) * 2 ^ 52 + zw8 n) (2047 * 2 ^ 52)) = _
 rw [Nat.min_eq_left]
 · unfold Ieee.Format.word
   rw [if_neg (by decide)]
 · have h4 : (n.log2 + 1022) * 2 ^ 52 <= 1074 * 2 ^ 52 := Nat.mul_le_mul_right _ (by omega)
   exact Nat.le_trans (Nat.add_le_add h4 (Nat.le_of_lt h2)) (by decide)
theorem zp3 {n : Nat} (h0 : 0 < n) (h : n < 2 ^ 53) : FloatKind.f64.decode (fOf n) = .number false (zw8 n) ((n.log2 : Int) - 52) := by
 obtain ⟨h1, h2, h3⟩ := zls h0 h
 have hw := zw7 h0 h
 obtain ⟨r, hr⟩ : ∃ r, zw8 n = 2 ^ 52 + r /\ r < 2 ^ 52 := ⟨zw8 n - 2 ^ 52, by omega, by omega⟩
 have hw2 : fOf n = (n.log2 + 1023) * 2 ^ 52 + r := by rw [hw, hr.1]; omega
 have hb : (n.log2 + 1023) * 2 ^ 52 <= 1075 * 2 ^ 52 := Nat.mul_le_mul_right _ (by omega)
 have hb0 : 1023 * 2 ^ 52 <= (n.log2 + 1023) * 2 ^ 52 := Nat.mul_le_mul_right _ (by omega)
 have hlt : fOf n < 2 ^ 63 := by omega
 show Ieee.double.read (fOf n) = _
 unfold Ieee.Format.read
 have es : Ieee.double.signWeight = 2 ^ 63 := by decide
 have eb : Ieee.double.binade = 2 ^ 52 := by decide
 have ei : Ieee.double.infRung = 2047 * 2 ^ 52 := by decide
 have el : Ieee.double.leastPlace = -1074 := by decide
 simp only [es, eb, ei, el]
 rw [Nat.div_eq_of_lt hlt, Nat.mod_eq_of_lt hlt, if_neg (by omega), if_pos (by omega)]
 have hm : fOf n % 2 ^ 52 = r := by rw [hw2]; omega
 have hd : fOf n / 2 ^ 52 = n.log2 + 1023 := by rw [hw2]; omega
 rw [hm, hd]
 have e2 : ((0 % 2 == 1) : Bool) = false := rfl
 rw [e2, hr.1]
 congr 1
 omega
theorem ytg : FloatKind.f64.decode (fOf 0) = .number false 0 (-1074) := by decide
theorem zia {a b : Nat} (ha : a < 2 ^ 53) (hb : b < 2 ^ 53) : FloatKind.f64.format.order (fOf a) (fOf b) = some (compare a b) := by
 have key : ∀ n : Nat, n < 2 ^ 53 -> ∃ m i, FloatKind.f64.decode (fOf n) = .number false m i /\ i <= 0 /\ ∀ base : Int, base <= i -> m * 2 ^ (i - base).toNat = n * 2 ^ (-base).toNat := by
   intro n h
   by_cases h0 : n = 0
   · subst h0
     exact ⟨0, -1074, ytg, by decide, fun base hb => by simp⟩
   · obtain ⟨h1, h2, h3⟩ := zls (n := n) (by omega) h
     refine ⟨_, _, zp3 (by omega) h, by omega, fun base hb => ?_⟩
     unfold zw8
     rw [Nat.mul_assoc, <- Nat.pow_add]
     congr 2
     omega
 obtain ⟨m, i, r1, l1, k1⟩ := key a ha
 obtain ⟨m', j, r2, l2, k2⟩ := key b hb
 have e : FloatKind.f64.format.order (fOf a) (fOf b) = (FloatKind.f64.decode (fOf a)).order (FloatKind.f64.decode (fOf b)) := rfl
 rw [e, r1, r2]
 unfold Ieee.Datum.order
 simp only
 have h1 := k1 (min i j) (by omega)
 have h2 := k2 (min i j) (by omega)
 congr 1
 unfold Ieee.signed
 rw [if_neg (by decide), if_neg (by decide), Nat.shiftLeft_eq, Nat.shiftLeft_eq, h1, h2]
 have hp : 0 < 2 ^ (-min i j).toNat := Nat.two_pow_pos _
 rw [show compare ((a * 2 ^ (-min i j).toNat : Nat) : Int) ((b * 2 ^ (-min i j).toNat : Nat) : Int) = compare a b from by
   generalize 2 ^ (-min i j).toNat = p at hp
   rcases Nat.lt_trichotomy a b with h | h | h
   · rw [Nat.compare_eq_lt.2 h]
     have := Nat.mul_lt_mul_of_pos_right h hp
     exact Int.compare_eq_lt.2 (by omega)
   · subst h
     rw [Nat.compare_eq_eq.2 rfl]
     exact Int.compare_eq_eq.2 rfl
   · rw [Nat.compare_eq_gt.2 h]
     have := Nat.mul_lt_mul_of_pos_right h hp
     exact Int.compare_eq_gt.2 (by omega)]
def zlr (x : Nat) : Nat := FloatKind.f64.encode ((FloatKind.f64.decode x).integral .zero)
theorem zqf {n k : Nat} (h : n ≠ 0) : (n * 2 ^ k).log2 = n.log2 + k := by
 have h1 := Nat.log2_self_le h
 have h2 := Nat.lt_log2_self (n := n)
 have hp : 0 < 2 ^ k := Nat.two_pow_pos _
 have h0 : n * 2 ^ k ≠ 0 := Nat.mul_ne_zero h (by omega)
 apply Nat.le_antisymm
 · have : (n * 2 ^ k).log2 < n.log2 + k + 1 := (Nat.log2_lt h0).2 (by
     calc n * 2 ^ k < 2 ^ (n.log2 + 1) * 2 ^ k := Nat.mul_lt_mul_of_pos_right h2 hp
       _ = 2 ^ (n.log2 + k + 1) := by rw [<- Nat.pow_add]; congr 1; omega)
   omega
 · exact (Nat.le_log2 h0).2 (by
     calc 2 ^ (n.log2 + k) = 2 ^ n.log2 * 2 ^ k := Nat.pow_add ..
       _ <= n * 2 ^ k := Nat.mul_le_mul_right _ h1)
theorem yee {n : Nat} (h : n < 2 ^ 53) : zlr (fOf n) = fOf n := by
 by_cases h0 : n = 0
 · subst h0; decide
 · obtain ⟨h1, h2, h3⟩ := zls (n := n) (by omega) h
   unfold zlr
   rw [zp3 (by omega) h]
   have e : (Ieee.Datum.number false (zw8 n) ((n.log2 : Int) - 52)).integral .zero = .number false n 0 := by
     unfold Ieee.Datum.integral
     simp only
     congr 1
     rw [show ((n.log2 : Int) - 52).toNat = 0 by omega, show (-((n.log2 : Int) - 52)).toNat = 52 - n.log2 by omega, Nat.shiftLeft_eq, Nat.pow_zero, Nat.mul_one]
     unfold Ieee.Toward.cut
     simp only
     have hm : (zw8 n).log2 = 52 := by
       unfold zw8
       rw [zqf h0]; omega
     rw [hm, Nat.min_eq_left (by omega), Nat.shiftLeft_eq, Nat.one_mul]
     unfold zw8
     rw [Nat.mul_div_cancel _ (Nat.two_pow_pos _)]
     rfl
   rw [e]
   unfold fOf FloatKind.nearest
   rw [decide_eq_false (by omega)]
   rfl
theorem yld {n : Nat} (h : n < 2 ^ 53) : fOf n < 2 ^ 63 := by
 by_cases h0 : n = 0
 · subst h0; decide
 · obtain ⟨h1, h2, h3⟩ := zls (n := n) (by omega) h
   rw [zw7 (by omega) h]
   have hb : (n.log2 + 1022) * 2 ^ 52 <= 1074 * 2 ^ 52 := Nat.mul_le_mul_right _ (by omega)
   exact Nat.lt_of_le_of_lt (Nat.add_le_add hb (Nat.le_of_lt h2)) (by decide)
def zyv (b : Nat) : Prop := ∃ n : Nat, n < 2 ^ 53 /\ b = fOf n
def yk3 (L : za7) : zbf := (98, fun xs => match xs with
 | [.flt .f64 b] => some (L zyv b, .flt .f64 (L zlr b))
 | _ => none)
theorem yk4 : zaz Tryz.prog (yk3 std) := by
 intro xs p r h hp
 dsimp only [yk3] at h
 split at h
 rotate_left
 · cases h
 rename_i b
 cases h
 have h1 : Tryz.prog.funcs[98]? = some Tryz.f98 := rfl
 have h2 : (Tryz.f98.name == "runtime.NumGoroutine") = false := by kernel_rfl
 have h3 : Tryz.f98.body.isNone = true := by kernel_rfl
 have h4 : Extern.findNext Tryz.f98 = none := by kernel_rfl
 have h5 : Extern.find Tryz.f98 = some (Extern.MathFloor.toIntegral "math.archTrunc" .zero) := by kernel_rfl
 intro D w vs hD hxs hgo
 obtain ⟨v, hv⟩ : ∃ v, vs.toList = [v] := by
   have hl : vs.toList.length = 1 := by simpa using hxs.1.symm
   match vs.toList, hl with
   | [a], _ => exact ⟨a, rfl⟩
 have : vs = #[v] := by rw [<- Array.toArray_toList (xs := vs), hv]
 subst this
 obtain ⟨n, hn, rfl⟩ : zyv b := hp
 have r1 : R w.heap D zas (.flt .f64 (fOf n)) v := hxs.2 0 _ v rfl rfl
 have := r1.inv_flt; subst this
 have key : (Extern.MathFloor.toIntegral "math.archTrunc" .zero #[.float .f64 (fOf n)]).run Tryz.prog w = .ok (.float .f64 (zlr (fOf n))) w := by
   have hd : ∃ m i, FloatKind.f64.decode (fOf n) = .number false m i := by
     by_cases h0 : n = 0
     · subst h0; exact ⟨_, _, ytg⟩
     · exact ⟨_, _, zp3 (by omega) hn⟩
   obtain ⟨m, i, hd⟩ := hd
   have key0 : ∀ x, ∃ a b, Extern.MathFloor.toIntegral "math.archTrunc" .zero #[.float .f64 x] = Extern.MathFloor.toIntegral.match_1 (fun _ => Sem Value) (FloatKind.f64.decode x) a b /\ ∀ d, b d = pure (.float .f64 (FloatKind.f64.encode (d.integral .zero))) := fun x => ⟨_, _, rfl, fun _ => rfl⟩
   obtain ⟨a, b, e1, e2⟩ := key0 (fOf n)
   unfold zlr
   rw [e1, hd]
   show Sem.run _ (b (.number false m i)) w = _
   rw [e2]
   rfl
 unfold ze7
 rw [show (yk3 std).fst = 98 from rfl, run_callFunc_extern h1 h2 h3 h4 h5, key]
 exact ⟨_, D, rfl, Below.refl _ _, fun _ h => h, fun b hb => .inl hb, .flt _ _⟩
def yoy (b : Nat) : Int := b
def zlq (L : za7) : zbf := (101, fun xs => match xs with
 | [.flt .f64 b] => some (True, .int .u64 (L yoy b))
 | _ => none)
theorem zng : zaz Tryz.prog (zlq std) := by
 intro xs p r h hp
 dsimp only [zlq] at h
 split at h
 rotate_left
 · cases h
 rename_i b
 cases h
 have h1 : Tryz.prog.funcs[101]? = some Tryz.f101 := rfl
 have h2 : (Tryz.f101.name == "runtime.NumGoroutine") = false := by kernel_rfl
 have h3 : Tryz.f101.body.isNone = true := by kernel_rfl
 have h4 : Extern.findNext Tryz.f101 = none := by kernel_rfl
 have h5 : Extern.find Tryz.f101 = some Extern.MathFloatBits.float64bits := by kernel_rfl
 intro D w vs hD hxs hgo
 obtain ⟨v, hv⟩ : ∃ v, vs.toList = [v] := by
   have hl : vs.toList.length = 1 := by simpa using hxs.1.symm
   match vs.toList, hl with
   | [a], _ => exact ⟨a, rfl⟩
 have : vs = #[v] := by rw [<- Array.toArray_toList (xs := vs), hv]
 subst this
 have r1 : R w.heap D zas (.flt .f64 b) v := hxs.2 0 _ v rfl rfl
 have := r1.inv_flt; subst this
 have key : (Extern.MathFloatBits.float64bits #[.float .f64 b]).run Tryz.prog w = .ok (.int .u64 (yoy b)) w := rfl
 unfold ze7
 rw [show (zlq std).fst = 101 from rfl, run_callFunc_extern h1 h2 h3 h4 h5, key]
 exact ⟨_, D, rfl, Below.refl _ _, fun _ h => h, fun b hb => .inl hb, .int _ _⟩
def zp2 (L : za7) : zbf := (100, fun xs => match xs with
 | [.int .u64 b] => some (True, .flt .f64 (L Int.toNat b))
 | _ => none)
theorem zyu : zaz Tryz.prog (zp2 std) := by
 intro xs p r h hp
 dsimp only [zp2] at h
 split at h
 rotate_left
 · cases h
 rename_i b
 cases h
 have h1 : Tryz.prog.funcs[100]? = some Tryz.f100 := rfl
 have h2 : (Tryz.f100.name == "runtime.NumGoroutine") = false := by kernel_rfl
 have h3 : Tryz.f100.body.isNone = true := by kernel_rfl
 have h4 : Extern.findNext Tryz.f100 = none := by kernel_rfl
 have h5 : Extern.find Tryz.f100 = some Extern.MathFloatBits.float64frombits := by kernel_rfl
 intro D w vs hD hxs hgo
 obtain ⟨v, hv⟩ : ∃ v, vs.toList = [v] := by
   have hl : vs.toList.length = 1 := by simpa using hxs.1.symm
   match vs.toList, hl with
   | [a], _ => exact ⟨a, rfl⟩
 have : vs = #[v] := by rw [<- Array.toArray_toList (xs := vs), hv]
 subst this
 have r1 : R w.heap D zas (.int .u64 b) v := hxs.2 0 _ v rfl rfl
 have := r1.inv_int; subst this
 have key : (Extern.MathFloatBits.float64frombits #[.int .u64 b]).run Tryz.prog w = .ok (.float .f64 b.toNat) w := rfl
 unfold ze7
 rw [show (zp2 std).fst = 100 from rfl, run_callFunc_extern h1 h2 h3 h4 h5, key]
 exact ⟨_, D, rfl, Below.refl _ _, fun _ h => h, fun b hb => .inl hb, .flt _ _⟩
theorem zw9 {n : Nat} (h : n < 2 ^ 53) : fEq .f64 (fOf n) (fOf n) = true := by
 unfold fEq yot
 rw [zia h h, Nat.compare_eq_eq.2 rfl]; rfl
theorem yle {a b : Nat} (ha : a < 2 ^ 53) (hb : b < 2 ^ 53) : fLt .f64 (fOf a) (fOf b) = decide (a < b) := by
 unfold fLt yot
 rw [zia ha hb]
 rcases Nat.lt_trichotomy a b with h | h | h
 · rw [Nat.compare_eq_lt.2 h, decide_eq_true h]; rfl
 · rw [Nat.compare_eq_eq.2 h, decide_eq_false (by omega)]; rfl
 · rw [Nat.compare_eq_gt.2 h, decide_eq_false (by omega)]; rfl
theorem ytj {a b : Nat} (ha : a < 2 ^ 53) (hb : b < 2 ^ 53) : fGt .f64 (fOf a) (fOf b) = decide (b < a) := by
 unfold fGt yot
 rw [zia ha hb]
 rcases Nat.lt_trichotomy a b with h | h | h
 · rw [Nat.compare_eq_lt.2 h, decide_eq_false (by omega)]; rfl
 · rw [Nat.compare_eq_eq.2 h, decide_eq_false (by omega)]; rfl
 · rw [Nat.compare_eq_gt.2 h, decide_eq_true h]; rfl
theorem ylg {a b : Nat} (ha : a < 2 ^ 53) (hb : b < 2 ^ 53) : fEq .f64 (fOf a) (fOf b) = decide (a = b) := by
 unfold fEq yot
 rw [zia ha hb]
 rcases Nat.lt_trichotomy a b with h | h | h
 · rw [Nat.compare_eq_lt.2 h, decide_eq_false (by omega)]; rfl
 · rw [Nat.compare_eq_eq.2 h, decide_eq_true h]; rfl
 · rw [Nat.compare_eq_gt.2 h, decide_eq_false (by omega)]; rfl
theorem yti {a b : Nat} (ha : a < 2 ^ 53) (hb : b < 2 ^ 53) : fLe .f64 (fOf a) (fOf b) = decide (a <= b) := by
 unfold fLe
 rw [yle ha hb, ylg ha hb]
 by_cases h : a <= b
 · rw [decide_eq_true h]
   by_cases h2 : a < b
   · rw [decide_eq_true h2]; rfl
   · rw [decide_eq_true (show a = b by omega), Bool.or_true]
 · rw [decide_eq_false h, decide_eq_false (by omega), decide_eq_false (by omega)]; rfl
theorem yfw {b : Nat} (h : b < 2 ^ 63) : yfx .u64 (yoy b) 9223372036854775808 = (b : Int) := by
 unfold yfx yoy
 have e1 : (BitVec.ofInt IntKind.u64.bits (b : Int)).toNat = b := by
   rw [show IntKind.u64.bits = 64 from rfl]
   simp only [BitVec.toNat_ofInt]
   omega
 have e2 : (~~~(BitVec.ofInt IntKind.u64.bits 9223372036854775808)).toNat = 2 ^ 63 - 1 := by decide
 rw [BitVec.toNat_and, e1, e2, Nat.and_two_pow_sub_one_of_lt_two_pow h, yr5]
 omega
def yok (L : za7) : zbf := (75, fun xs => match xs with
 | [.flt .f64 b] => some (L zyv b, .flt .f64 (L zlr b))
 | _ => none)
theorem yj9 : zaz Tryz.prog (yok std) := by
 intro xs p r h hp
 dsimp only [yok] at h |-
 split at h <;> cases h
 try simp only [L2, L3, std] at hp |-
 rename_i b
 refine za6 (T := tt) (S := fun L => zam [yk3 L]) (lo := noA) (lb := noA) 5 (fn := Tryz.f75) rfl rfl (by kernel_rfl) (by kernel_rfl) rfl zab (za2 ⟨yk4, trivial⟩) (by kernel_rfl) ?_
 intro L P' Q' hL hP hQ
 (cbv; try simp only [syT, true_and, and_true])
 subst hL; subst hQ
 exact ⟨hp, by rw [zi8]; rfl⟩
def yos (L : za7) : zbf := (76, fun xs => match xs with
 | [.flt .f64 b] => some (L zyv b, .flt .f64 b)
 | _ => none)
theorem yjk : zaz Tryz.prog (yos std) := by
 intro xs p r h hp
 dsimp only [yos] at h |-
 split at h <;> cases h
 try simp only [L2, L3, std] at hp |-
 rename_i b
 refine za6 (T := tt) (S := fun L => zam [zlq L, zp2 L]) (lo := noA) (lb := noA) 5 (fn := Tryz.f76) rfl rfl (by kernel_rfl) (by kernel_rfl) rfl zab (za2 ⟨zng, zyu, trivial⟩) (by kernel_rfl) ?_
 intro L P' Q' hL hP hQ
 (cbv; try simp only [syT, true_and, and_true])
 subst hL; subst hQ
 obtain ⟨n, hn, rfl⟩ : zyv b := hp
 rw [zi8]
 show Int.toNat (yfx .u64 (yoy (fOf n)) 9223372036854775808) = fOf n
 rw [yfw (yld hn), Int.toNat_natCast]
def yol (L : za7) : zbf := (77, fun xs => match xs with
 | [.flt .f64 b] => some (L zyv b, .bool false)
 | _ => none)
theorem yja : zaz Tryz.prog (yol std) := by
 intro xs p r h hp
 dsimp only [yol] at h |-
 split at h <;> cases h
 try simp only [L2, L3, std] at hp |-
 rename_i b
 refine za6 (T := tt) (S := fun L => zam [zlq L]) (lo := noA) (lb := noA) 5 (fn := Tryz.f77) rfl rfl (by kernel_rfl) (by kernel_rfl) rfl zab (za2 ⟨zng, trivial⟩) (by kernel_rfl) ?_
 intro L P' Q' hL hP hQ
 (cbv; try simp only [syT, true_and, and_true])
 subst hL; subst hQ
 obtain ⟨n, hn, rfl⟩ : zyv b := hp
 have := yld hn
 rw [zak]
 show ilt (IntKind.i64.wrap (yoy (fOf n))) 0 = false
 rw [zju, zio]
 unfold yoy
 omega
def yqs (b : Nat) : Prop := ∃ n : Nat, n <= 2 ^ 40 /\ b = fOf n
def yoj (L : za7) : zbf := (60, fun xs => match xs with
 | [.flt .f64 b] => some (L yqs b, .bool true)
 | _ => none)
theorem yj8 : zaz Tryz.prog (yoj std) := by
 intro xs p r h hp
 dsimp only [yoj] at h |-
 split at h <;> cases h
 try simp only [L2, L3, std] at hp |-
 rename_i b
 refine za6 (T := tt) (S := fun L => zam [yok L, yos L, yol L]) (lo := noA) (lb := noA) 5 (fn := Tryz.f60) rfl rfl (by kernel_rfl) (by kernel_rfl) rfl zab (za2 ⟨yj9, yjk, yja, trivial⟩) (by kernel_rfl) ?_
 intro L P' Q' hL hP hQ
 (cbv; try simp only [syT, true_and, and_true])
 subst hL; subst hQ
 obtain ⟨n, hn, rfl⟩ : yqs b := hp
 have hn53 : n < 2 ^ 53 := Nat.lt_of_le_of_lt hn (by decide)
 have hN : zyv (fOf n) := ⟨n, hn53, rfl⟩
 have e1 : fEq .f64 (fOf n) (zlr (fOf n)) = true := by rw [yee hn53]; exact zw9 hn53
 have e2 : fLe .f64 (fOf n) 4787326403894837248 = true := by
   have := yti (a := n) (b := 2 ^ 40) hn53 (by decide)
   rw [decide_eq_true hn] at this
   exact this
 refine ⟨hN, fun _ => ⟨hN, fun _ => ⟨fun _ => ⟨hN, ?_⟩, fun _ => ?_⟩, fun h => ?_⟩, fun h => ?_⟩
 · rw [zak]; rfl
 · rw [zak]; rfl
 · exact absurd (e2.symm.trans h) (by decide)
 · exact absurd (e1.symm.trans h) (by decide)
theorem zk6 {b : Nat} (h : yqs b) : zyv b := by
 obtain ⟨n, hn, rfl⟩ := h
 exact ⟨n, Nat.lt_of_le_of_lt hn (by decide), rfl⟩
def yed (a b : Nat) : Prop := yqs a /\ yqs b
def yc8 (L : za7) : zbf := (41, fun xs => match xs with
 | [.cpx .f64 a b] => some (L2 L yed a b, .bool true)
 | _ => none)
theorem zo8 : zaz Tryz.prog (yc8 std) := by
 intro xs p r h hp
 dsimp only [yc8] at h |-
 split at h <;> cases h
 try simp only [L2, L3, std] at hp |-
 rename_i a b
 refine za6 (T := tt) (S := fun L => zam [yoj L]) (lo := noA) (lb := noA) 5 (fn := Tryz.f41) rfl rfl (by kernel_rfl) (by kernel_rfl) rfl zab (za2 ⟨yj8, trivial⟩) (by kernel_rfl) ?_
 intro L P' Q' hL hP hQ
 (cbv; try simp only [syT, true_and, and_true])
 subst hL; subst hQ
 obtain ⟨h1, h2⟩ : yed a b := hp
 exact ⟨h1, fun _ => ⟨h2, by rw [zak]⟩, fun h => by cases h⟩
def zv7 (a b : Int) : Prop := 0 <= a /\ a <= 1099511627776 /\ 0 <= b /\ b <= 1099511627776
def yhq (L : za7) : zbf := (32, fun xs => match xs with
 | [.int .i64 a, .int .i64 b] => some (L2 L zv7 a b, .tup [.cpx .f64 (L fOf a) (L fOf b), .int .i64 0])
 | _ => none)
theorem zuz : zaz Tryz.prog (yhq std) := by
 intro xs p r h hp
 dsimp only [yhq] at h |-
 split at h <;> cases h
 try simp only [L2, L3, std] at hp |-
 rename_i a b
 refine za6 (T := tt) (S := noS) (lo := noA) (lb := noA) 5 (fn := Tryz.f32) rfl rfl (by kernel_rfl) (by kernel_rfl) rfl zab (zc4 _) (by kernel_rfl) ?_
 intro L P' Q' hL hP hQ
 (cbv; try simp only [syT, true_and, and_true])
 subst hL; subst hQ
 obtain ⟨h1, h2, h3, h4⟩ : zv7 a b := hp
 refine ⟨fun h => ?_, fun _ => ⟨fun h => ?_, fun _ => ?_⟩⟩
 · have h : ilt 1099511627776 (ysy a b) = true := h
   rw [zfv, ydn] at h
   omega
 · have h : ilt (ywl a b) (-1099511627776) = true := h
   rw [zfv, ydm] at h
   omega
 · rw [zoy, zez, zez, zlo, zr1, zlp]
   exact ⟨⟨rfl, rfl⟩, rfl, trivial⟩
def yth (a b : Nat) : Prop := zyv a /\ zyv b
def yef (a b : Nat) : Int := if fLt .f64 a b = true then -1 else if fGt .f64 a b = true then 1 else 0
def yom (L : za7) : zbf := (61, fun xs => match xs with
 | [.flt .f64 a] => some (L zyv a, .bool false)
 | _ => none)
theorem yjb : zaz Tryz.prog (yom std) := by
 intro xs p r h hp
 dsimp only [yom] at h |-
 split at h <;> cases h
 try simp only [L2, L3, std] at hp |-
 rename_i a
 refine za6 (T := tt) (S := noS) (lo := noA) (lb := noA) 5 (fn := Tryz.f61) rfl rfl (by kernel_rfl) (by kernel_rfl) rfl zab (zc4 _) (by kernel_rfl) ?_
 intro L P' Q' hL hP hQ
 (cbv; try simp only [syT, true_and, and_true])
 subst hL; subst hQ
 obtain ⟨n, hn, rfl⟩ : zyv a := hp
 rw [zak]
 show (!(fEq .f64 (fOf n) (fOf n))) = false
 rw [zw9 hn]; rfl
def yor (L : za7) : zbf := (42, fun xs => match xs with
 | [.flt .f64 a, .flt .f64 b] => some (L2 L yth a b, .int .i64 (L2 L yef a b))
 | _ => none)
theorem yjj : zaz Tryz.prog (yor std) := by
 intro xs p r h hp
 dsimp only [yor] at h |-
 split at h <;> cases h
 try simp only [L2, L3, std] at hp |-
 rename_i a b
 refine za6 (T := tt) (S := fun L => zam [yom L]) (lo := noA) (lb := noA) 5 (fn := Tryz.f42) rfl rfl (by kernel_rfl) (by kernel_rfl) rfl zab (za2 ⟨yjb, trivial⟩) (by kernel_rfl) ?_
 intro L P' Q' hL hP hQ
 (cbv; try simp only [syT, true_and, and_true])
 subst hL; subst hQ
 obtain ⟨h1, h2⟩ : yth a b := hp
 refine ⟨h1, h2, fun h => (by cases h), fun _ => ⟨fun h => (by cases h), fun _ => ⟨fun h => ?_, fun h => ⟨fun h' => ?_, fun h' => ?_⟩⟩⟩⟩
 · have h : fLt .f64 a b = true := h
   rw [zeg, yef, if_pos h]
 · have h : fLt .f64 a b = false := h
   have h' : fGt .f64 a b = true := h'
   rw [zeg, yef, if_neg (by rw [h]; decide), if_pos h']
 · have h : fLt .f64 a b = false := h
   have h' : fGt .f64 a b = false := h'
   rw [zeg, yef, if_neg (by rw [h]; decide), if_neg (by rw [h']; decide)]
theorem zp4 {a b : Nat} (ha : a < 2 ^ 53) (hb : b < 2 ^ 53) : yef (fOf a) (fOf b) = if a < b then -1 else if b < a then 1 else 0 := by
 unfold yef
 rw [yle ha hb, ytj ha hb]
 simp only [decide_eq_true_eq]
def cSml (a b c d : Nat) : Prop := yed a b /\ yed c d
def ygg (a b c d : Nat) : Int := if yef a c = 0 then yef b d else yef a c
def yca (L : za7) : zbf := (21, fun xs => match xs with
 | [.cpx .f64 a b, .cpx .f64 c d] => some (L (L3 L cSml a b c) d, .int .i64 (L (L3 L ygg a b c) d))
 | _ => none)
theorem zo9 : zaz Tryz.prog (yca std) := by
 intro xs p r h hp
 dsimp only [yca] at h |-
 split at h <;> cases h
 try simp only [L2, L3, std] at hp |-
 rename_i a b c d
 refine za6 (T := tt) (S := fun L => zam [yc8 L, yor L]) (lo := noA) (lb := noA) 5 (fn := Tryz.f21) rfl rfl (by kernel_rfl) (by kernel_rfl) rfl zab (za2 ⟨zo8, yjj, trivial⟩) (by kernel_rfl) ?_
 intro L P' Q' hL hP hQ
 (cbv; try simp only [syT, true_and, and_true])
 subst hL; subst hQ
 obtain ⟨⟨h1, h2⟩, h3, h4⟩ : cSml a b c d := hp
 have n1 := zk6 h1
 have n2 := zk6 h2
 have n3 := zk6 h3
 have n4 := zk6 h4
 refine ⟨⟨h1, h2⟩, fun h => (by cases h), fun _ => ⟨⟨h3, h4⟩, fun h => (by cases h), fun _ => ⟨⟨n1, n3⟩, fun h => ?_, fun h => ⟨⟨n2, n4⟩, ?_⟩⟩⟩⟩
 · have h : ine (yef a c) 0 = true := h
   rw [yiv] at h
   rw [zeg, ygg, if_neg h]; rfl
 · have h : ine (yef a c) 0 = false := h
   rw [ydh] at h
   rw [zeg, ygg, if_pos h]; rfl
def yj4 : Nat := 4787326403894837248
def yoe : Nat := 14010698440749613056
def zw4 (b : Nat) : Prop := ylf .f64 b yj4 = true /\ ylf .f64 (yov .f64 b yj4) yoe = true /\ fIs .add .f64 (yqt .f64 (yov .f64 b yj4) yoe) 0 = true
def yod (b : Nat) : Nat := yjl .add .f64 (yqt .f64 (yov .f64 b yj4) yoe) 0
def yoc (L : za7) : zbf := (102, fun xs => match xs with
 | [.flt .f64 b] => some (L zw4 b, .flt .f64 (L yod b))
 | _ => none)
theorem yj3 : zaz Tryz.prog (yoc std) := by
 intro xs p r h hp
 dsimp only [yoc] at h |-
 split at h <;> cases h
 try simp only [L2, L3, std] at hp |-
 rename_i b
 refine za6 (T := tt) (S := noS) (lo := noA) (lb := noA) 5 (fn := Tryz.f102) rfl rfl (by kernel_rfl) (by kernel_rfl) rfl zab (zc4 _) (by kernel_rfl) ?_
 intro L P' Q' hL hP hQ
 (cbv; try simp only [syT, true_and, and_true])
 subst hL; subst hQ
 obtain ⟨h1, h2, h3⟩ : zw4 b := hp
 refine ⟨h1, h2, h3, ?_⟩
 rw [zi8]; rfl
def tdOk (a b : Nat) : Prop := zw4 a /\ zw4 b
def ym3 (L : za7) : zbf := (80, fun xs => match xs with
 | [.cpx .f64 a b] => some (L2 L tdOk a b, .cpx .f64 (L yod a) (L yod b))
 | _ => none)
theorem ygq : zaz Tryz.prog (ym3 std) := by
 intro xs p r h hp
 dsimp only [ym3] at h |-
 split at h <;> cases h
 try simp only [L2, L3, std] at hp |-
 rename_i a b
 refine za6 (T := tt) (S := fun L => zam [yoc L]) (lo := noA) (lb := noA) 5 (fn := Tryz.f80) rfl rfl (by kernel_rfl) (by kernel_rfl) rfl zab (za2 ⟨yj3, trivial⟩) (by kernel_rfl) ?_
 intro L P' Q' hL hP hQ
 (cbv; try simp only [syT, true_and, and_true])
 subst hL; subst hQ
 obtain ⟨h1, h2⟩ : tdOk a b := hp
 refine ⟨h1, h2, ?_⟩
 rw [zgu]; exact ⟨rfl, rfl⟩
def yv0 (a b : Nat) : Prop := a = fOf 3 /\ b = fOf 4
theorem s34 : yed (fOf 3) (fOf 4) := ⟨⟨3, by decide, rfl⟩, ⟨4, by decide, rfl⟩⟩
def ym0 (L : za7) : zbf := (63, fun xs => match xs with
 | [.cpx .f64 a b, .int .i64 1] => some (L2 L yv0 a b, .cpx .f64 13839561654909534208 4613937818241073152)
 | _ => none)
theorem ygn : zaz Tryz.prog (ym0 std) := by
 intro xs p r h hp
 dsimp only [ym0] at h |-
 split at h <;> cases h
 try simp only [L2, L3, std] at hp |-
 rename_i a b
 refine za6 (T := tt) (S := fun L => zam [yc8 L, ym3 L]) (lo := noA) (lb := noA) 5 (fn := Tryz.f63) rfl rfl (by kernel_rfl) (by kernel_rfl) rfl zab (za2 ⟨zo8, ygq, trivial⟩) (by kernel_rfl) ?_
 intro L P' Q' hL hP hQ
 (cbv; try simp only [syT, true_and, and_true])
 subst hL; subst hQ
 obtain ⟨rfl, rfl⟩ : yv0 a b := hp
 refine ⟨s34, fun h => (by cases h), fun _ => ⟨fun _ => ⟨fun h => absurd h (by decide +kernel), fun _ => ⟨⟨⟨by decide +kernel, by decide +kernel, by decide +kernel⟩, by decide +kernel, by decide +kernel, by decide +kernel⟩, ?_⟩⟩, fun h => absurd h (by decide +kernel)⟩⟩
 rw [zgu]
 exact ⟨by decide +kernel, by decide +kernel⟩
def ynd (L : za7) : zbf := (64, fun xs => match xs with
 | [.cpx .f64 a b] => some (L2 L yv0 a b, .flt .f64 4627730092099895296)
 | _ => none)
theorem yhz : zaz Tryz.prog (ynd std) := by
 intro xs p r h hp
 dsimp only [ynd] at h |-
 split at h <;> cases h
 try simp only [L2, L3, std] at hp |-
 rename_i a b
 refine za6 (T := tt) (S := fun L => zam [yc8 L]) (lo := noA) (lb := noA) 5 (fn := Tryz.f64) rfl rfl (by kernel_rfl) (by kernel_rfl) rfl zab (za2 ⟨zo8, trivial⟩) (by kernel_rfl) ?_
 intro L P' Q' hL hP hQ
 (cbv; try simp only [syT, true_and, and_true])
 subst hL; subst hQ
 obtain ⟨rfl, rfl⟩ : yv0 a b := hp
 refine ⟨s34, fun h => (by cases h), fun _ => ⟨by decide +kernel, by decide +kernel, by decide +kernel, ?_⟩⟩
 rw [zi8]
 decide +kernel
theorem zza : za9 Tryz.prog 44 [] (.bool true) := by
 refine za6 (T := tt) (S := fun L => zam [yhq L, ym0 L, ynd L]) (lo := noA) (lb := noA) 5 (fn := Tryz.f44) rfl rfl (by kernel_rfl) (by kernel_rfl) rfl zab (za2 ⟨zuz, ygn, yhz, trivial⟩) (by kernel_rfl) ?_
 intro L P' Q' hL hP hQ
 (cbv; try simp only [syT, true_and, and_true])
 subst hL; subst hQ
 refine ⟨⟨by decide, by decide, by decide, by decide⟩, fun _ => ⟨⟨rfl, rfl⟩, fun _ => ⟨⟨rfl, rfl⟩, ?_⟩, fun h => absurd h (by decide +kernel)⟩, fun h => absurd h (by decide +kernel)⟩
 rw [zak]
 decide +kernel
theorem zu6 : za9 Tryz.prog 23 [] (.bool true) := by
 refine za6 (T := tt) (S := fun L => zam [tru 44]) (lo := noA) (lb := noA) 5 (fn := Tryz.f23) rfl rfl (by kernel_rfl) (by kernel_rfl) rfl zab (za2 ⟨zbw zza, trivial⟩) (by kernel_rfl) ?_
 intro L P' Q' hL hP hQ
 (cbv; try simp only [syT, true_and, and_true])
 subst hL; subst hQ
 rw [zak]
abbrev Lbx := List UInt8
def sxC (L : za7) (x : List UInt8) (j : Nat) : AV := .str x
def sxV : Vw Lbx := ⟨1, sxC, fun c => zur (c 0), fun c => ∃ s, c 0 = .str s, []⟩
theorem zkh : zrv sxV := by
 refine ⟨fun c hc j hj h D μ v r => ?_, fun c x hx => ?_⟩
 · obtain ⟨s, hs⟩ := hc
   have hj : j < 1 := hj
   obtain rfl : j = 0 := by omega
   show R h D μ (.str (zur (c 0))) v
   rw [hs] at r |-
   exact r
 · have h0 : c 0 = .str x := hx 0 (by decide)
   refine ⟨⟨x, h0⟩, ?_⟩
   show zur (c 0) = x
   rw [h0]; rfl
def zaq (l : List Lbx) (i : Nat) : Lbx := zik sxV l i
def yl2 (L : za7) (l : List Lbx) : AV := .lst 1 (L zcm l) (fun i => sxC L (L (L zaq l) i))
def zhy (x : AV) : Prop := okW sxV x
def zcz (x : AV) : List Lbx := rdW sxV x
def noB (x : List UInt8) : Bool := seq x []
def yut (L : za7) : zbf := (58, fun xs => match xs with | [.str s] => some (True, .bool (L noB s)) | _ => none)
theorem yc9 : zaz Tryz.prog (yut std) := by
 intro xs p r h hp
 dsimp only [yut] at h |-
 split at h <;> cases h
 try simp only [L2, L3, std] at hp |-
 rename_i s
 refine za6 (T := tt) (S := noS) (lo := noA) (lb := noA) 5 (fn := Tryz.f58) rfl rfl (by kernel_rfl) (by kernel_rfl) rfl zab (zc4 _) (by kernel_rfl) ?_
 intro L P' Q' hL hP hQ
 (cbv; try simp only [syT, true_and, and_true])
 subst hL; subst hQ
 rw [zak]; rfl
def yl6 (l : List Lbx) : Int := zgs noB l
def ysc (l : List Lbx) (i : Nat) : Prop := zmd noB l i
def toNS (l : List Lbx) (i : Nat) : Nat := l.length - i
def yko (L : za7) (n : Nat) (l : List Lbx) : Nat × Ob := (500000, .row 9 1 n (fun i => sxC L (L (L zaq l) i)))
def yhe (n : Nat) : List AV := [.sl 500000 1 0 n, .fn 58 [] []]
def yo4 (L : za7) : znq := (71, fun raw ob => match raw with
 | [.sl a 1 0 n, .fn g [] []] => match zap g 58, ob a with
   | true, some (.row _ _ m get) => some ⟨[.sl 500000 1 0 n, .fn 58 [] []], [(500000, .row 9 1 n get)], L zhy (.lst 1 n get) /\ L upN n, .int .i64 (L yl6 (L zcz (.lst 1 n get))), [(500000, .row 9 1 n (fun i => sxC L (L (L zaq (L zcz (.lst 1 n get))) i)))]⟩
   | _, _ => none
 | _ => none)
def ixsA (L : za7) (l : List Lbx) : Nat -> St -> Option Ann := fun id st => match id with
 | 0 => some ⟨Nat, fun i => [(8, .int .i64 (L zac i))], fun i => [], [0, 1, 7], [500000], fun i => L2 L ysc l i, fun i => L2 L toNS l i⟩
 | _ => none
theorem yo3 {l : List Lbx} {n : Nat} (hz : n <= 1000000) (hlw : n = l.length) : zbg Tryz.prog 71 (yhe n) [yko std n l] (.int .i64 (yl6 l)) [yko std n l] := by
 refine zb9 (T := tt) (S := fun L => zc3 [yut L] []) (lo := fun L => ixsA L l) (lb := noA) 5 (fn := Tryz.f71) (xs := fun L => yhe n) (rts := fun L => [.int .i64 (L yl6 l)]) (O := fun L => [yko L n l]) (O1 := fun L => [yko L n l]) rfl rfl (by kernel_rfl) (by kernel_rfl) (by kernel_rfl) zab (zau ⟨yc9, trivial⟩ trivial) (by kernel_rfl) ?_
 intro L P' Q' hL hP hQ
 (cbv; try simp only [syT, true_and, and_true])
 refine ⟨⟨0, ?_⟩, fun i hi => ?_⟩
 · (cbv; try simp only [syT, true_and, and_true])
   (subst hL; subst hQ; simp only [L2, L3, std] at *; try simp only [syS, reduceCtorEq, Int.reduceToNat, Int.reduceAdd, Int.reduceSub] at *)
   exact zl5 _ _
 · have hi2 : ysc l i := by
     have h := hi
     rw [hL] at h
     exact h
   clear hi
   (cbv; try simp only [syT, true_and, and_true])
   refine ⟨fun hlt => ⟨?_, fun hb => ?_, fun hb => ⟨i + 1, ?_⟩⟩, fun hge => ?_⟩
   · (subst hL; subst hQ; simp only [L2, L3, std] at *; try simp only [syS, reduceCtorEq, Int.reduceToNat, Int.reduceAdd, Int.reduceSub] at *)
     omega
   · (subst hL; subst hQ; simp only [L2, L3, std] at *; try simp only [syS, reduceCtorEq, Int.reduceToNat, Int.reduceAdd, Int.reduceSub] at *)
     exact (zg4 (V := sxV) hi2 (by omega) hb).symm
   · (cbv; try simp only [syT, true_and, and_true])
     (subst hL; subst hQ; simp only [L2, L3, std] at *; try simp only [syS, reduceCtorEq, Int.reduceToNat, Int.reduceAdd, Int.reduceSub] at *)
     exact ⟨by omega, zew (V := sxV) hi2 (by omega) hb, by show l.length - (i + 1) + 1 <= l.length - i; omega⟩
   · (subst hL; subst hQ; simp only [L2, L3, std] at *; try simp only [syS, reduceCtorEq, Int.reduceToNat, Int.reduceAdd, Int.reduceSub] at *)
     exact (zg5 hi2 (by omega)).symm
theorem zyl : zfz Tryz.prog (yo4 std) := by
 intro raw ob T h hp
 unfold yo4 at h
 simp only at h
 split at h
 rotate_left
 · cases h
 rename_i a n g
 split at h
 rotate_left
 · cases h
 rename_i t m get hg _
 obtain rfl : g = 58 := of_decide_eq_true hg
 cases h
 obtain ⟨ho, hn⟩ := hp
 have ho : zhy (.lst 1 n get) := ho
 have hn : n <= 1000000 := hn
 have hl : (zcz (.lst 1 n get)).length = n := zkv _ _ _ _
 refine ykz zkh ho ?_
 exact yo3 (l := zcz (.lst 1 n get)) hn hl.symm
theorem zl2 {l : List Lbx} {i : Nat} (h : i < l.length) : zaq l i = l[i] := zav h
def ze9 (l : List Lbx) : List Lbx := l.filter fun x => !noB x
def zel (l : List Lbx) (i : Nat) : List Lbx := ze9 (l.take i)
def kE (l : List Lbx) (i : Nat) : Nat := (zel l i).length
def dE (l : List Lbx) (i : Nat) : List Lbx := zel l i ++ l.drop (kE l i)
def nE (l : List Lbx) : Nat := (ze9 l).length
def ygf (l : List Lbx) : List Lbx := ze9 l ++ List.replicate (l.length - nE l) []
def dOkE (l : List Lbx) (i : Nat) : Prop := i <= l.length
theorem zbl (l : List Lbx) (q : Nat) : zaq l q = (l[q]?).getD ([] : Lbx) := by
 show l.getD q ([] : Lbx) = _
 rw [List.getD_eq_getElem?_getD]
theorem znh {l : List Lbx} (h : ∀ x ∈ l, noB x = false) : ze9 l = l := by
 unfold ze9
 rw [List.filter_eq_self]
 intro x hx
 rw [h x hx]; rfl
theorem zw2 {α : Type} (p : α -> Bool) : ∀ l : List α, 0 <= zgs p l -> ∃ (j : Nat) (hj : j < l.length), zgs p l = j /\ p l[j] = true /\ ∀ x ∈ l.take j, p x = false
 | [], h => by simp [zgs] at h
 | x :: l, h => by
   by_cases hx : p x = true
   · exact ⟨0, by simp, by simp [zgs, hx], hx, by simp⟩
   · have hx' : p x = false := by simpa using hx
     have hge := zt8 p l
     have h0 : 0 <= zgs p l := by
       rw [zgs, if_neg hx] at h
       split at h <;> omega
     obtain ⟨j, hj, e1, e2, e3⟩ := zw2 p l h0
     refine ⟨j + 1, by simpa using hj, ?_, by simpa using e2, ?_⟩
     · rw [zgs, if_neg hx, if_neg (by omega), e1]; rfl
     · intro y hy
       rw [List.take_succ_cons, List.mem_cons] at hy
       rcases hy with rfl | hy
       · exact hx'
       · exact e3 y hy
theorem yds {l : List Lbx} (h : yl6 l = -1) : ze9 l = l := by
 have h1 := zgr (noB) l
 have h2 : l.any (noB) = false := by
   rw [<- h1, decide_eq_false]
   have h : zgs (noB) l = -1 := h
   omega
 refine znh fun x hx => ?_
 rw [List.any_eq_false] at h2
 simpa using h2 x hx
theorem zjb {l : List Lbx} {i : Nat} (hi : i < l.length) : zel l (i + 1) = if noB (zaq l i) = true then zel l i else zel l i ++ [zaq l i] := by
 unfold zel ze9
 rw [List.take_succ_eq_append_getElem hi, List.filter_append, zl2 hi]
 cases h : noB l[i] with
 | true => rw [if_pos rfl]; simp [h]
 | false => rw [if_neg (by decide)]; simp [h]
theorem ydr {l : List Lbx} (h : ¬ yl6 l = -1) : ∃ j : Nat, yl6 l = j /\ j < l.length /\ zel l (j + 1) = l.take j := by
 have h0 := (zt8 (noB) l).1
 obtain ⟨j, hj, e1, e2, e3⟩ := zw2 (noB) l (by have h : ¬ zgs (noB) l = -1 := h; omega)
 refine ⟨j, e1, hj, ?_⟩
 rw [zjb hj, zl2 hj, if_pos e2]
 exact znh e3
theorem yl5 {l : List Lbx} (i : Nat) : kE l i <= i := by
 have h1 : kE l i <= (l.take i).length := List.length_filter_le _ _
 rw [List.length_take] at h1
 omega
theorem zp8 {l : List Lbx} (i q : Nat) : zaq (dE l i) q = if q < kE l i then zaq (zel l i) q else zaq l q := by
 rw [zbl, zbl, zbl, dE]
 split
 · rename_i h
   rw [List.getElem?_append_left h]
 · rename_i h
   have h : (zel l i).length <= q := by
     have : ¬ q < (zel l i).length := h
     omega
   rw [List.getElem?_append_right h, List.getElem?_drop]
   unfold kE
   rw [show (zel l i).length + (q - (zel l i).length) = q by omega]
theorem yer {l : List Lbx} (i : Nat) : zaq (dE l i) i = zaq l i := by
 have := yl5 (l := l) i
 rw [zp8, if_neg (by omega)]
theorem yep {l : List Lbx} {j : Nat} (hj : j < l.length) (h : zel l (j + 1) = l.take j) : kE l (j + 1) = j /\ dE l (j + 1) = l := by
 have hk : kE l (j + 1) = j := by
   rw [kE, h, List.length_take]; omega
 refine ⟨hk, ?_⟩
 rw [dE, h, hk, List.take_append_drop]
theorem yjq {l : List Lbx} {i : Nat} (hi : i < l.length) (h : noB (zaq l i) = true) : kE l (i + 1) = kE l i /\ dE l (i + 1) = dE l i := by
 have e : zel l (i + 1) = zel l i := by rw [zjb hi, if_pos h]
 have e2 : kE l (i + 1) = kE l i := by rw [kE, e]; rfl
 exact ⟨e2, by rw [dE, e, e2]; rfl⟩
theorem yjr {l : List Lbx} {i : Nat} (hi : i < l.length) (h : noB (zaq l i) = false) : kE l (i + 1) = kE l i + 1 /\ ∀ q, zaq (dE l (i + 1)) q = if q = kE l i then zaq l i else zaq (dE l i) q := by
 have e : zel l (i + 1) = zel l i ++ [zaq l i] := by rw [zjb hi, if_neg (by rw [h]; decide)]
 have e2 : kE l (i + 1) = kE l i + 1 := by rw [kE, e, List.length_append]; rfl
 refine ⟨e2, fun q => ?_⟩
 rw [zp8, zp8, e2, e, zbl (zel l i ++ [zaq l i])]
 by_cases h1 : q < kE l i
 · rw [if_pos (by omega), if_neg (by omega), if_pos h1, List.getElem?_append_left h1, zbl]
 · by_cases h2 : q = kE l i
   · rw [if_pos (by omega), if_pos h2, List.getElem?_append_right (by unfold kE at h2; omega), show q - (zel l i).length = 0 by unfold kE at h2; omega]
     rfl
   · rw [if_neg (by omega), if_neg h2, if_neg h1]
theorem yeq {l : List Lbx} {i : Nat} (hi : i = l.length) : kE l i = nE l /\ ∀ q, zaq (ygf l) q = if q < nE l then zaq (dE l i) q else ([] : Lbx) := by
 subst hi
 have e : zel l l.length = ze9 l := by rw [zel, List.take_length]
 have e2 : kE l l.length = nE l := by rw [kE, e]; rfl
 refine ⟨e2, fun q => ?_⟩
 rw [zp8, e2, e, zbl, ygf]
 split
 · rename_i h
   rw [List.getElem?_append_left h, zbl]
 · rename_i h
   have h' : (ze9 l).length <= q := by
     have : ¬ q < (ze9 l).length := h
     omega
   rw [List.getElem?_append_right h', List.getElem?_replicate]
   split <;> rfl
theorem yf2 {l : List Lbx} (h : yl6 l = -1) : ygf l = l /\ nE l = l.length := by
 have e := yds h
 have e2 : nE l = l.length := by rw [nE, e]
 refine ⟨?_, e2⟩
 rw [ygf, e2, e, Nat.sub_self]
 simp
def ypb (L : za7) : znq := (56, fun raw ob => match raw with
 | [.sl a 1 0 n, .fn g [] []] => match zap g 58, ob a with
   | true, some (.row _ _ m get) => some ⟨[.sl 500000 1 0 n, .fn 58 [] []], [(500000, .row 9 1 n get)], L zhy (.lst 1 n get) /\ L upN n, .sl 500000 1 0 (L nE (L zcz (.lst 1 n get))), [(500000, .row 9 1 n (fun i => sxC L (L (L zaq (L ygf (L zcz (.lst 1 n get)))) i)))]⟩
   | _, _ => none
 | _ => none)
def ywv (L : za7) (l : List Lbx) (n : Nat) : Nat -> St -> Option Ann := fun id st => match id with
 | 0 => some ⟨Nat, fun i => [(6, .int .i64 (L zac i)), (5, .int .i64 (L zac (L (L kE l) i)))], fun i => [(500000, .row 9 1 n (fun q => sxC L (L (L zaq (L (L dE l) i)) q)))], [0, 1], [], fun i => L (L dOkE l) i, fun i => L2 L toNS l i⟩
 | _ => none
theorem ygh {z : Int} {j : Nat} (h : z = (j : Int)) (hj : j <= 1000000) : (z + 1 + 9223372036854775808) % 18446744073709551616 - 9223372036854775808 = ((j + 1 : Nat) : Int) := by omega
theorem yvw (q : Nat) (x : Lbx) (f : Nat -> Lbx) (i j : Nat) (h : j < 1) : over std q 0 1 [.str x] (fun i => sxC std (f i)) i j = sxC std (if i = q then x else f i) j := by
 rw [zgm, if_pos (by omega)]
 obtain rfl : j = 0 := by omega
 by_cases e : i = q
 · subst e
   rw [if_pos rfl, za4]; rfl
 · rw [if_neg e, zai e]; rfl
theorem selE (k n : Nat) (x : Lbx) (i j : Nat) (h : j < 1) (hk : k <= n) (hi : i < n) : zpk (zdb k (n - k) i) (zbo AV.dead [.str []] j) (sxC std x j) = sxC std (if i < k then x else []) j := by
 rw [ymg]
 obtain rfl : j = 0 := by omega
 by_cases e : i < k
 · rw [if_pos e, if_neg (by rw [yav]; omega)]
 · rw [if_neg e, if_pos (by rw [yav]; omega)]; rfl
theorem ypa {l : List Lbx} {n : Nat} (hz : n <= 1000000) (hlw : n = l.length) : zbg Tryz.prog 56 (yhe n) [yko std n l] (.sl 500000 1 0 (nE l)) [yko std n (ygf l)] := by
 refine zb9 (T := tt) (S := fun L => zc3 [yut L] [yo4 L]) (lo := fun L => ywv L l n) (lb := noA) 5 (fn := Tryz.f56) (xs := fun L => yhe n) (rts := fun L => [.sl 500000 1 0 (L nE l)]) (O := fun L => [yko L n l]) (O1 := fun L => [yko L n (L ygf l)]) rfl rfl (by kernel_rfl) (by kernel_rfl) (by kernel_rfl) zab (zau ⟨yc9, trivial⟩ ⟨zyl, trivial⟩) (by kernel_rfl) ?_
 intro L P' Q' hL hP hQ
 have hG : ∀ (y : List Lbx), n = zcm y -> L zcz (.lst 1 n (fun i => sxC L (L (L zaq y) i))) = y := by subst hL; intro y hy; subst hy; exact (zc7 zkh y).2
 have hO : ∀ (y : List Lbx), n = zcm y -> L zhy (.lst 1 n (fun i => sxC L (L (L zaq y) i))) := by subst hL; intro y hy; subst hy; exact (zc7 zkh y).1
 (cbv; try simp only [syT, true_and, and_true])
 simp only [hG l hlw, hO l hlw]
 refine ⟨fun _ _ _ _ => trivial, ⟨trivial, ?_⟩, fun h1 => ?_, fun h1 => ?_⟩
 · subst hL; exact hz
 · (subst hL; subst hQ; simp only [L2, L3, std] at *; try simp only [syS, reduceCtorEq, Int.reduceToNat, Int.reduceAdd, Int.reduceSub] at *)
   obtain ⟨k1, k2⟩ := yf2 h1
   rw [k1, k2]
   exact ⟨fun _ _ _ _ => rfl, hlw⟩
 · have h1' : ¬ yl6 l = -1 := by
     have h := h1
     rw [hL] at h
     simpa [ieq, std] using h
   clear h1
   obtain ⟨j, hj, hjl, hjk⟩ := ydr h1'
   obtain ⟨k1, k2⟩ := yep hjl hjk
   refine ⟨⟨j + 1, ?_⟩, fun i hi => ?_⟩
   · (cbv; try simp only [syT, true_and, and_true])
     (subst hL; subst hQ; simp only [L2, L3, std] at *; try simp only [syS, reduceCtorEq, Int.reduceToNat, Int.reduceAdd, Int.reduceSub] at *)
     rw [k1, k2]
     exact ⟨fun _ _ _ _ => rfl, hj, ygh hj (by omega), by show j + 1 <= _; omega⟩
   · have hi2 : i <= l.length := by
       have h := hi
       rw [hL] at h
       exact h
     clear hi
     have hkn := yl5 (l := l) i
     (cbv; try simp only [syT, true_and, and_true])
     refine ⟨fun hlt => ⟨?_, fun hb => ⟨?_, ⟨i + 1, ?_⟩⟩, fun hb => ⟨i + 1, ?_⟩⟩, fun hge => ⟨?_, ?_, ?_, ?_⟩⟩
     · (subst hL; subst hQ; simp only [L2, L3, std] at *; try simp only [syS, reduceCtorEq, Int.reduceToNat, Int.reduceAdd, Int.reduceSub] at *)
       omega
     · (subst hL; subst hQ; simp only [L2, L3, std] at *; try simp only [syS, reduceCtorEq, Int.reduceToNat, Int.reduceAdd, Int.reduceSub] at *)
       omega
     · (cbv; try simp only [syT, true_and, and_true])
       (subst hL; subst hQ; simp only [L2, L3, std] at *; try simp only [syS, reduceCtorEq, Int.reduceToNat, Int.reduceAdd, Int.reduceSub] at *)
       have hl : i < l.length := by omega
       have hb2 : noB (zaq l i) = false := by rw [<- yer]; exact hb
       obtain ⟨m1, m2⟩ := yjr hl hb2
       refine ⟨fun q j hq hj => ?_, ?_, ygh rfl (by omega), by show i + 1 <= _; omega, by show l.length - (i + 1) + 1 <= l.length - i; omega⟩
       · rw [yvw _ _ _ _ _ hj, m2, yer]
       · rw [m1]
         exact ygh rfl (by omega)
     · (cbv; try simp only [syT, true_and, and_true])
       (subst hL; subst hQ; simp only [L2, L3, std] at *; try simp only [syS, reduceCtorEq, Int.reduceToNat, Int.reduceAdd, Int.reduceSub] at *)
       have hl : i < l.length := by omega
       have hb2 : noB (zaq l i) = true := by rw [<- yer]; exact hb
       obtain ⟨m1, m2⟩ := yjq hl hb2
       rw [m1, m2]
       exact ⟨fun _ _ _ _ => rfl, rfl, ygh rfl (by omega), by show i + 1 <= _; omega, by show l.length - (i + 1) + 1 <= l.length - i; omega⟩
     · (subst hL; subst hQ; simp only [L2, L3, std] at *; try simp only [syS, reduceCtorEq, Int.reduceToNat, Int.reduceAdd, Int.reduceSub] at *)
       omega
     · (subst hL; subst hQ; simp only [L2, L3, std] at *; try simp only [syS, reduceCtorEq, Int.reduceToNat, Int.reduceAdd, Int.reduceSub] at *)
       omega
     · (subst hL; subst hQ; simp only [L2, L3, std] at *; try simp only [syS, reduceCtorEq, Int.reduceToNat, Int.reduceAdd, Int.reduceSub] at *)
       obtain ⟨m1, m2⟩ := yeq (l := l) (i := i) (by omega)
       intro q j hq hj
       rw [selE _ _ _ _ _ hj (by omega) hq, m2, m1]
     · (subst hL; subst hQ; simp only [L2, L3, std] at *; try simp only [syS, reduceCtorEq, Int.reduceToNat, Int.reduceAdd, Int.reduceSub] at *)
       exact (yeq (by omega)).1
theorem zz0 : zfz Tryz.prog (ypb std) := by
 intro raw ob T h hp
 unfold ypb at h
 simp only at h
 split at h
 rotate_left
 · cases h
 rename_i a n g
 split at h
 rotate_left
 · cases h
 rename_i t m get hg _
 obtain rfl : g = 58 := of_decide_eq_true hg
 cases h
 obtain ⟨ho, hn⟩ := hp
 have ho : zhy (.lst 1 n get) := ho
 have hn : n <= 1000000 := hn
 have hl : (zcz (.lst 1 n get)).length = n := zkv _ _ _ _
 refine ykz zkh ho ?_
 exact ypa (l := zcz (.lst 1 n get)) hn hl.symm
def zx1 (s sep : List UInt8) : Nat := cntB s sep + 1
def ywq (a b : Int) : Prop := a = 0 /\ b = -1
def ywr (L : za7) : znq := (72, fun raw ob => match raw with
 | [.str s, .str sep, .int .i64 a, .int .i64 b] => some ⟨[.str s, .str sep, .int .i64 a, .int .i64 b], [], L zod sep /\ L2 L upto 900000 s /\ L2 L ywq a b, .sl 900 1 0 (L2 L zx1 s sep), [(900, .row 9 1 (L2 L zx1 s sep) (fun i => sxC L (L (L zaq (L2 L zae s sep)) i)))]⟩
 | _ => none)
theorem ye0 : zfz Tryz.prog (ywr std) := by
 intro raw ob T h hp
 unfold ywr at h
 simp only at h
 split at h
 rotate_left
 · cases h
 rename_i s sep a b
 cases h
 obtain ⟨p1, p2, rfl, rfl⟩ : zod sep /\ s.length <= 900000 /\ a = 0 /\ b = -1 := hp
 refine zb9 (T := tt) (S := fun L => zc3 [yiw L, yf0 L, nev 96] []) (lo := fun L => splA L s sep) (lb := noA) 5 (fn := Tryz.f72) (xs := fun L => [.str s, .str sep, .int .i64 0, .int .i64 (-1)]) (rts := fun L => [.sl 900 1 0 (L2 L zx1 s sep)]) (O := fun L => []) (O1 := fun L => [(900, .row 9 1 (L2 L zx1 s sep) (fun i => sxC L (L (L zaq (L2 L zae s sep)) i)))]) rfl rfl (by kernel_rfl) (by kernel_rfl) (by kernel_rfl) zab (zau ⟨zw1, zpb, zvd _, trivial⟩ trivial) (by kernel_rfl) ?_
 intro L P' Q' hL hP hQ
 (cbv; try simp only [syT, true_and, and_true])
 have hc : zpm s sep = (cntB s sep : Int) := rfl
 have hle := zwk s sep
 have hsep : sep ≠ [] := fun e => by rw [e] at p1; cases p1
 refine ⟨fun h => ?_, fun h1 => ⟨fun h => ?_, fun h2 => ⟨fun h3 => ⟨?_, ?_, ⟨0, ?_⟩, fun i hi => ?_⟩, fun h3 => ?_⟩⟩⟩
 · (subst hL; subst hQ; simp only [L2, L3, std] at *; try simp only [syS, reduceCtorEq, Int.reduceToNat, Int.reduceAdd, Int.reduceSub] at *)
 · (subst hL; subst hQ; simp only [L2, L3, std] at *; try simp only [syS, reduceCtorEq, Int.reduceToNat, Int.reduceAdd, Int.reduceSub] at *)
   exact absurd h hsep
 · (subst hL; subst hQ; simp only [L2, L3, std] at *; try simp only [syS, reduceCtorEq, Int.reduceToNat, Int.reduceAdd, Int.reduceSub] at *)
   exact p1
 · (subst hL; subst hQ; simp only [L2, L3, std] at *; try simp only [syS, reduceCtorEq, Int.reduceToNat, Int.reduceAdd, Int.reduceSub] at *)
   rw [hc]
   omega
 · (cbv; try simp only [syT, true_and, and_true])
   (subst hL; subst hQ; simp only [L2, L3, std] at *; try simp only [syS, reduceCtorEq, Int.reduceToNat, Int.reduceAdd, Int.reduceSub] at *)
   rw [hc, show min (((cntB s sep : Nat) + 1 + 9223372036854775808 : Int) % 18446744073709551616 - 9223372036854775808) (((s.length : Nat) + 1 + 9223372036854775808 : Int) % 18446744073709551616 - 9223372036854775808) = (cntB s sep : Nat) + 1 by omega]
   refine ⟨⟨by omega, fun k j hk hj => ?_⟩, by omega, by omega, rfl, Nat.zero_le _⟩
   rw [zlv, if_neg (by omega)]
   match j, hj with
   | 0, _ => rfl
 · cbv at hi
   (cbv; try simp only [syT, true_and, and_true])
   refine ⟨fun h4 => ⟨?_, fun h5 => ?_, fun h5 => ⟨?_, ?_, ?_, i + 1, ?_⟩⟩, fun h4 => ⟨?_, ?_, ?_⟩⟩
   · (subst hL; subst hQ; simp only [L2, L3, std] at *; try simp only [syS, reduceCtorEq, Int.reduceToNat, Int.reduceAdd, Int.reduceSub] at *)
     exact p1
   · (subst hL; subst hQ; simp only [L2, L3, std] at *; try simp only [syS, reduceCtorEq, Int.reduceToNat, Int.reduceAdd, Int.reduceSub] at *)
     obtain ⟨r1, r2, r3⟩ := zg1 (c := by1 sep) (s := s) (i := i) (show i < cntB s sep by omega)
     exfalso
     have h5 : Lib.indexByte (zei (by1 sep) s i) (by1 sep) < 0 := h5
     omega
   · (subst hL; subst hQ; simp only [L2, L3, std] at *; try simp only [syS, reduceCtorEq, Int.reduceToNat, Int.reduceAdd, Int.reduceSub] at *)
     obtain ⟨r1, r2, r3⟩ := zg1 (c := by1 sep) (s := s) (i := i) (show i < cntB s sep by omega)
     obtain ⟨q1, q2⟩ := zdl (by1 sep) s i hi
     have r1 : 0 <= zfw (zc6 s sep i) sep := r1
     have r2 : (zfw (zc6 s sep i) sep).toNat < (zc6 s sep i).length := r2
     have q2 : (zc6 s sep i).length <= s.length := q2
     omega
   · (subst hL; subst hQ; simp only [L2, L3, std] at *; try simp only [syS, reduceCtorEq, Int.reduceToNat, Int.reduceAdd, Int.reduceSub] at *)
     omega
   · (subst hL; subst hQ; simp only [L2, L3, std] at *; try simp only [syS, reduceCtorEq, Int.reduceToNat, Int.reduceAdd, Int.reduceSub] at *)
     obtain ⟨r1, r2, r3⟩ := zg1 (c := by1 sep) (s := s) (i := i) (show i < cntB s sep by omega)
     obtain ⟨q1, q2⟩ := zdl (by1 sep) s i hi
     have r1 : 0 <= zfw (zc6 s sep i) sep := r1
     have r2 : (zfw (zc6 s sep i) sep).toNat < (zc6 s sep i).length := r2
     have q2 : (zc6 s sep i).length <= s.length := q2
     have e1 : (sep.length : Int) = 1 := by rw [p1]; rfl
     omega
   · (cbv; try simp only [syT, true_and, and_true])
     (subst hL; subst hQ; simp only [L2, L3, std] at *; try simp only [syS, reduceCtorEq, Int.reduceToNat, Int.reduceAdd, Int.reduceSub] at *)
     obtain ⟨r1, r2, r3⟩ := zg1 (c := by1 sep) (s := s) (i := i) (show i < cntB s sep by omega)
     obtain ⟨q1, q2⟩ := zdl (by1 sep) s i hi
     have r1 : 0 <= zfw (zc6 s sep i) sep := r1
     have r2 : (zfw (zc6 s sep i) sep).toNat < (zc6 s sep i).length := r2
     have q2 : (zc6 s sep i).length <= s.length := q2
     have e1 : (sep.length : Int) = 1 := by rw [p1]; rfl
     refine ⟨fun k j hk hj => ?_, by omega, ?_, by omega, by omega⟩
     · rw [zv1 _ _ _ _ _ hj]
       congr 1
       by_cases hki : k = i
       · subst hki
         rw [if_pos rfl, zlv, if_pos (by omega), show (zfw (zc6 s sep k) sep + 0 + 9223372036854775808) % 18446744073709551616 - 9223372036854775808 = zfw (zc6 s sep k) sep by omega]
         exact r3.symm
       · rw [if_neg hki, zlv, zlv]
         by_cases hlt : k < i
         · rw [if_pos hlt, if_pos (by omega)]
         · rw [if_neg hlt, if_neg (by omega)]
     · rw [e1, show ((zfw (zc6 s sep i) sep + 1 + 9223372036854775808) % 18446744073709551616 - 9223372036854775808).toNat = (zfw (zc6 s sep i) sep).toNat + 1 by omega]
       rfl
   · (subst hL; subst hQ; simp only [L2, L3, std] at *; try simp only [syS, reduceCtorEq, Int.reduceToNat, Int.reduceAdd, Int.reduceSub] at *)
     omega
   · (subst hL; subst hQ; simp only [L2, L3, std] at *; try simp only [syS, reduceCtorEq, Int.reduceToNat, Int.reduceAdd, Int.reduceSub] at *)
     omega
   · (subst hL; subst hQ; simp only [L2, L3, std] at *; try simp only [syS, reduceCtorEq, Int.reduceToNat, Int.reduceAdd, Int.reduceSub] at *)
     have hi' : i = cntB s sep := by omega
     subst hi'
     rw [show ((cntB s sep : Nat) + 1 + 9223372036854775808 : Int) % 18446744073709551616 - 9223372036854775808 = ((cntB s sep + 1 : Nat) : Int) by omega, Int.toNat_natCast]
     refine ⟨⟨rfl, fun k j hk hj => ?_⟩, rfl⟩
     rw [zv1 _ _ _ _ _ hj]
     show AV.str _ = AV.str (zec (zae s sep) k)
     congr 1
     by_cases hki : k = cntB s sep
     · rw [if_pos hki, hki]; exact (zq1 _ _).symm
     · have hk : k < cntB s sep + 1 := hk
       rw [if_neg hki, zlv, if_pos (by omega)]
 · (subst hL; subst hQ; simp only [L2, L3, std] at *; try simp only [syS, reduceCtorEq, Int.reduceToNat, Int.reduceAdd, Int.reduceSub] at *)
   exact absurd h3 (by decide)
def yvk (L : za7) : znq := (57, fun raw ob => match raw with
 | [.str s, .str sep] => some ⟨[.str s, .str sep], [], L zod sep /\ L2 L upto 900000 s, .sl 900 1 0 (L2 L zx1 s sep), [(900, .row 9 1 (L2 L zx1 s sep) (fun i => sxC L (L (L zaq (L2 L zae s sep)) i)))]⟩
 | _ => none)
theorem yan : zfz Tryz.prog (yvk std) := by
 intro raw ob T h hp
 unfold yvk at h
 simp only at h
 split at h
 rotate_left
 · cases h
 rename_i s sep
 cases h
 obtain ⟨p1, p2⟩ : zod sep /\ s.length <= 900000 := hp
 refine zb9 (T := tt) (S := fun L => zc3 [] [ywr L]) (lo := noA) (lb := noA) 5 (fn := Tryz.f57) (xs := fun L => [.str s, .str sep]) (rts := fun L => [.sl 900 1 0 (L2 L zx1 s sep)]) (O := fun L => []) (O1 := fun L => [(900, .row 9 1 (L2 L zx1 s sep) (fun i => sxC L (L (L zaq (L2 L zae s sep)) i)))]) rfl rfl (by kernel_rfl) (by kernel_rfl) (by kernel_rfl) zab (zau trivial ⟨ye0, trivial⟩) (by kernel_rfl) ?_
 intro L P' Q' hL hP hQ
 (cbv; try simp only [syT, true_and, and_true])
 subst hL
 exact ⟨⟨p1, p2, rfl, rfl⟩, fun _ _ _ _ => trivial⟩
def zmo : List UInt8 := [47]
def zaj (s : Lbx) : List Lbx := ze9 (zae s zmo)
def yhm (L : za7) : zbf := (33, fun xs => match xs with
 | [.str s] => some (L2 L upto 900000 s, .lst 1 (L zcm (L zaj s)) (fun i => sxC L (L (L zaq (L zaj s)) i)))
 | _ => none)
theorem zuv : zaz Tryz.prog (yhm std) := by
 intro xs p r h hp
 dsimp only [yhm] at h |-
 split at h <;> cases h
 try simp only [L2, L3, std] at hp |-
 rename_i s
 have hs : s.length <= 900000 := hp
 refine za6 (T := tt) (S := fun L => zc3 [] [yvk L, ypb L]) (lo := noA) (lb := noA) 5 (fn := Tryz.f33) rfl rfl (by kernel_rfl) (by kernel_rfl) rfl zab (zau trivial ⟨yan, zz0, trivial⟩) (by kernel_rfl) ?_
 intro L P' Q' hL hP hQ
 (cbv; try simp only [syT, true_and, and_true])
 subst hL; subst hQ
 have hl : zx1 s [47] = zcm (zae s [47]) := (zat (by1 [47]) s).symm
 obtain ⟨r1, r2⟩ := zc7 zkh (zae s [47])
 have r1 : zhy (.lst 1 (zx1 s [47]) fun i => sxC std (zaq (zae s [47]) i)) := by rw [hl]; exact r1
 have r2 : zcz (.lst 1 (zx1 s [47]) fun i => sxC std (zaq (zae s [47]) i)) = zae s [47] := by rw [hl]; exact r2
 have hc := zwk s [47]
 refine ⟨⟨rfl, hs⟩, fun _ _ _ _ => trivial, ⟨r1, ?_⟩, ?_⟩
 · show cntB s [47] + 1 <= 1000000
   omega
 · show zfs (.lst 1 (zcm (zaj s)) fun i => sxC std (zaq (zaj s) i)) (.lst 1 (nE (zcz (.lst 1 (zx1 s [47]) fun i => sxC std (zaq (zae s [47]) i)))) fun i => sxC std (zaq (ygf (zcz (.lst 1 (zx1 s [47]) fun i => sxC std (zaq (zae s [47]) i)))) (Nat.add 0 i)))
   rw [r2, zgt]
   refine ⟨rfl, fun i j hi hj => ?_⟩
   have hi : i < (ze9 (zae s [47])).length := hi
   show AV.str (zaq (ygf (zae s [47])) (Nat.add 0 i)) = AV.str (zaq (zaj s) i)
   rw [show Nat.add 0 i = i from Nat.zero_add i, zbl, zbl, ygf, List.getElem?_append_left hi]
   rfl
theorem zgj {c : UInt8} : ∀ {u : List UInt8} {v : List UInt8}, (∀ x ∈ u, x ≠ c) -> zah c (u ++ c :: v) = u :: zah c v
 | [], v, _ => by simp [zah]
 | x :: u, v, h => by
   have ih := zgj (u := u) (v := v) (fun y hy => h y (by simp [hy]))
   rw [List.cons_append, zah, if_neg (h x (by simp)), ih]
theorem zx0 {c : UInt8} {u : List UInt8} (h : ∀ x ∈ u, x ≠ c) : zah c u = [u] := zeq fun k hk => h c (List.mem_of_getElem? hk) rfl
theorem yt0 {s : List UInt8} {c : UInt8} {m : Nat} (h0 : ∀ k, k < m -> s[k]? ≠ some c) (h : s[m]? = some c) : Lib.indexByte s c = m := by
 by_cases hn : Lib.indexByte s c < 0
 · exact absurd h (ydt hn m)
 · obtain ⟨h1, h2, h3⟩ := zqq hn
   rcases Nat.lt_trichotomy (Lib.indexByte s c).toNat m with hlt | heq | hgt
   · exact absurd h1 (h0 _ hlt)
   · omega
   · exact absurd h (h2 _ hgt)
theorem yo2 {u v : List UInt8} {c : UInt8} (h : ∀ x ∈ u, x ≠ c) : Lib.indexByte (u ++ c :: v) c = u.length := by
 refine yt0 (fun k hk => ?_) (by simp)
 rw [List.getElem?_append_left hk]
 intro e
 exact h c (List.mem_of_getElem? e) rfl
theorem ypg {u v : List UInt8} (h : ∀ x ∈ u, x ≠ 58) : yjv (u ++ 58 :: v) [58] = u /\ yew (u ++ 58 :: v) [58] = v /\ yu0 (u ++ 58 :: v) [58] = true := by
 have e : zfw (u ++ 58 :: v) [58] = u.length := yo2 h
 rw [yjv, yew, yu0, e, if_neg (by omega), if_neg (by omega)]
 refine ⟨by simp, by simp, by simp⟩
theorem ysw {u : List UInt8} (h : u.all isD = true) (c : UInt8) (hc : isD c = false) : ∀ x ∈ u, x ≠ c := by
 intro x hx e
 subst e
 rw [List.all_eq_true.1 h x hx] at hc
 cases hc
theorem zjp {n : Int} (c : UInt8) (hc : isD c = false) : ∀ x ∈ zcx n, x ≠ c := ysw (ylk n.toNat).1 c hc
def zqv (x : Pl) : List UInt8 := zcx x.a ++ 46 :: (zcx x.b ++ 46 :: (zcx x.c ++ 46 :: zcx x.d))
theorem ym2 (x : Pl) : plT x = zqv x ++ 58 :: zcx x.p := by simp [plT, zqv]
theorem yob (x : Pl) : ∀ y ∈ zqv x, y ≠ 58 := by
 have hd : isD 58 = false := by decide
 intro y hy
 simp only [zqv, List.mem_append, List.mem_cons] at hy
 rcases hy with h | rfl | h | rfl | h | rfl | h
 · exact zjp 58 hd y h
 · decide
 · exact zjp 58 hd y h
 · decide
 · exact zjp 58 hd y h
 · decide
 · exact zjp 58 hd y h
theorem zys (x : Pl) : zae (zqv x) [46] = [zcx x.a, zcx x.b, zcx x.c, zcx x.d] := by
 have hd : isD 46 = false := by decide
 show zah 46 (zqv x) = _
 rw [zqv, zgj (zjp 46 hd), zgj (zjp 46 hd), zgj (zjp 46 hd), zx0 (zjp 46 hd)]
theorem ygm {n : Int} (h : 0 <= n /\ n <= 255) : zkg n := ⟨h.1, by omega⟩
theorem ym9 {x : Pl} (h : zzn x) : (1 <= x.p -> spE (plT x) = 0 /\ spP (plT x) = x) /\ (x.p = 0 -> spE (plT x) = 4) := by
 obtain ⟨c1, c2, c3⟩ := ypg (u := zqv x) (v := zcx x.p) (yob x)
 rw [<- ym2] at c1 c2 c3
 obtain ⟨ha, hb, hc, hd, hp⟩ := h
 have hh : zov (plT x) = [zcx x.a, zcx x.b, zcx x.c, zcx x.d] := by rw [zov, c1, zys]
 have na := zev (ygm ha)
 have nb := zev (ygm hb)
 have nc := zev (ygm hc)
 have nd := zev (ygm hd)
 have np := zev (n := x.p) ⟨hp.1, by omega⟩
 have hport : zsk (plT x) = zcx x.p := c2
 have v0 : zma (plT x) 0 = x.a := by rw [zma, hh]; exact na.2
 have v1 : zma (plT x) 1 = x.b := by rw [zma, hh]; exact nb.2
 have v2 : zma (plT x) 2 = x.c := by rw [zma, hh]; exact nc.2
 have v3 : zma (plT x) 3 = x.d := by rw [zma, hh]; exact nd.2
 have e0 : yg7 (plT x) 0 = 0 := by rw [yg7, hh]; exact na.1
 have e1 : yg7 (plT x) 1 = 0 := by rw [yg7, hh]; exact nb.1
 have e2 : yg7 (plT x) 2 = 0 := by rw [yg7, hh]; exact nc.1
 have e3 : yg7 (plT x) 3 = 0 := by rw [yg7, hh]; exact nd.1
 refine ⟨fun h1 => ?_, fun h0 => if_neg fun hk => ?_⟩
 · have hok : yuo (plT x) := by
     refine ⟨c3, by rw [hh]; rfl, fun k hk => ?_, by rw [hport]; exact np.1, by rw [hport, np.2]; exact h1, by rw [hport, np.2]; exact hp.2⟩
     match k, hk with
     | 0, _ => exact ⟨e0, by rw [v0]; exact ha.2⟩
     | 1, _ => exact ⟨e1, by rw [v1]; exact hb.2⟩
     | 2, _ => exact ⟨e2, by rw [v2]; exact hc.2⟩
     | 3, _ => exact ⟨e3, by rw [v3]; exact hd.2⟩
   have hE : spE (plT x) = 0 := if_pos hok
   refine ⟨hE, ?_⟩
   rw [spP, if_pos hE, v0, v1, v2, v3, hport, np.2]
 · have := hk.2.2.2.2.1
   rw [hport, np.2, h0] at this
   omega
end Sy
end Go.Proofs.YtogpolfhcbgcbaaGreatDoor
