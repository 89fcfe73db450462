/-Small facts on worlds, strings as lists of bytes, rows of bytes: used by every walk of this seat; no statement of the seat is proved here; and what stands between these and the texts behind.-/
import Derived.Test.YtlphgephdhadhaaGreatRows
import Derived.WalkKit
import Derived.WalkSpells
import Derived.WalkLawsBesides
import Derived.Deep.DeepCutAuto
import Derived.Deep.OwnRows
import Derived.Laws.IdiomStrings
import Derived.Lib.Hide
import Derived.Below
import Derived.ChangeSame
import Derived.ScopeJumps
import Derived.ProofKit
import Derived.OpenShut
import Derived.Carry
import Derived.Lib.SmallJoins
import Derived.RegionTactic
import Derived.BigRegion
import Derived.Test.YtlphgephdhadhaaGreatM3
import Derived.Lib.Bytealg
import Derived.ChangeArms
import Derived.ChangeSlices
import Derived.WideShapes
import Derived.Lib.Overlaps
import Derived.Lib.Builder
import Derived.Lib.BytesEntry
import Derived.Test.YtlphgephdhadhaaGreatShelf
namespace Go.Proofs.YtlphgephdhadhaaGreat
open Go.RowKit Go.WideShapes Go.ChangeShapes Go.ChangeAt
def zn2 (b : UInt8) : Value := .int .u8 (b.toNat : Int)
def str (l : List UInt8) : Value := .string ⟨l.toArray⟩
theorem zis (n : Nat) : zn2 (UInt8.ofNat n) = .int .u8 ((n : Int) % 256) := by
 have h : (((UInt8.ofNat n).toNat : Nat) : Int) = (n : Int) % 256 := by
   rw [UInt8.toNat_ofNat']; omega
 unfold zn2; rw [h]
@[go_sem] theorem ba_get (l : List UInt8) (k : Nat) (h : k < (⟨l.toArray⟩ : ByteArray).size) : (⟨l.toArray⟩ : ByteArray)[k] = l[k]'h := rfl
@[go_sem] theorem ba_append (a b : List UInt8) : (⟨a.toArray⟩ : ByteArray) ++ ⟨b.toArray⟩ = ⟨(a ++ b).toArray⟩ := by
 apply ByteArray.ext; simp
theorem zju (l : List UInt8) (a b : Nat) : (⟨l.toArray⟩ : ByteArray).extract a b = ⟨((l.drop a).take (b - a)).toArray⟩ := by
 apply ByteArray.ext; simp [ByteArray.data_extract]
@[go_sem] theorem ba_extract_all (l : List UInt8) (a : Nat) : (⟨l.toArray⟩ : ByteArray).extract a l.length = ⟨(l.drop a).toArray⟩ := by
 rw [zju, List.take_of_length_le (by simp)]
@[go_sem] theorem ba_extract_zero (l : List UInt8) (b : Nat) : (⟨l.toArray⟩ : ByteArray).extract 0 b = ⟨(l.take b).toArray⟩ := by
 rw [zju, List.drop_zero, Nat.sub_zero]
@[go_sem] theorem wrap_byte_u64 (b : UInt8) : IntKind.u64.wrap (b.toNat : Int) = b.toNat := by
 have := b.toNat_lt; rw [IntKind.wrap_u64]; omega
@[go_sem] theorem wrap_byte_u32 (b : UInt8) : IntKind.u32.wrap (b.toNat : Int) = b.toNat := by
 have := b.toNat_lt; rw [IntKind.wrap_u32]; omega
@[go_sem] theorem wrap_byte_u16 (b : UInt8) : IntKind.u16.wrap (b.toNat : Int) = b.toNat := by
 have := b.toNat_lt; rw [IntKind.wrap_u16]; omega
@[go_sem] theorem wrap_byte_u8 (b : UInt8) : IntKind.u8.wrap (b.toNat : Int) = b.toNat := by
 have := b.toNat_lt; rw [IntKind.wrap_u8]; omega
@[go_sem] theorem wrap_byte_i64 (b : UInt8) : IntKind.i64.wrap (b.toNat : Int) = b.toNat := by
 have := b.toNat_lt; rw [IntKind.wrap_i64]; omega
theorem zjv (g j : Nat) : (⟨g, 0, none⟩ : Addr).add j = ⟨g, j, none⟩ := by
 unfold Addr.add
 split
 · rename_i h; rw [h]
 · rw [Nat.zero_add]
theorem yk7 {P : Program} {w : World} {src dst e : TypeId} {g n cap : Nat} {f : Nat -> Value} (l : List UInt8) (hs : P.underlying src = some (.slice e)) (he : P.underlying e = some (.int .u8)) (hd : P.underlying dst = some .string)
   (hr : w.rowIs g e n f) (hl : l.length = n) (hf : ∀ i (hi : i < l.length), f i = zn2 l[i]) :
   (convert src dst (.slice (some ⟨g, 0, none⟩) n cap)).run P w = .ok (.string ⟨l.toArray⟩) w := by
 subst hl
 refine run_convert_bytes_back w src dst e _ cap l hs he hd fun j hj => ?_
 have := hr.cell hj
 rw [hf j hj] at this
 rw [zjv]
 exact this
theorem ofNat_toNat (x : Nat) : ((UInt8.ofNat x).toNat : Int) = (x : Int) % 256 := by rw [UInt8.toNat_ofNat']; omega
def Row (w : World) (b : Nat) (t : TypeId) (n : Nat) (f : Nat -> Value) : Prop :=
 ∃ (c : Array Value) (lo hi : Nat), w.heap[b]? = some (.cells c t (lo, hi)) /\ n <= c.size /\ (hi = 0 \/ n <= lo) /\ ∀ i, i < n -> c[i]? = some (f i)
section
variable {w w' : World} {b : Nat} {t : TypeId} {n : Nat} {f g : Nat -> Value}
theorem Row.cell (h : Row w b t n f) {i : Nat} (hi : i < n) : w.cell? ⟨b, i, none⟩ = some (f i) := by
 obtain ⟨c, lo, hi', hb, _, _, hc⟩ := h
 simp [World.cell?, hb, hc i hi]
theorem Row.frozen (h : Row w b t n f) {i : Nat} (hi : i < n) : w.frozen? ⟨b, i, none⟩ = false := by
 obtain ⟨c, lo, hi', hb, _, hf, _⟩ := h
 simp only [World.frozen?, hb]
 rcases hf with hf | hf
 · subst hf; simp
 · simp; omega
theorem Row.lt (h : Row w b t n f) : b < w.heap.size := by
 obtain ⟨c, lo, hi, hb, _⟩ := h
 exact (Array.getElem?_eq_some_iff.1 hb).1
theorem Row.congr (h : Row w b t n f) (e : ∀ i, i < n -> f i = g i) : Row w b t n g := by
 obtain ⟨c, lo, hi, hb, hn, hf, hc⟩ := h
 exact ⟨c, lo, hi, hb, hn, hf, fun i hi => by rw [hc i hi, e i hi]⟩
theorem Row.of_block (h : Row w b t n f) (e : w'.heap[b]? = w.heap[b]?) : Row w' b t n f := by
 obtain ⟨c, lo, hi, hb, hn, hf, hc⟩ := h
 exact ⟨c, lo, hi, e.trans hb, hn, hf, hc⟩
theorem Row.set (h : Row w b t n f) (i : Nat) (v : Value) : Row (w.setCell ⟨b, i, none⟩ v) b t n (fun j => if j = i then v else f j) := by
 obtain ⟨c, lo, hi', hb, hn, hf, hc⟩ := h
 refine ⟨c.setIfInBounds i v, lo, hi', ?_, by simpa using hn, hf, fun j hj => ?_⟩
 · simp [World.setCell, Array.getElem?_modify, hb]
 · rw [Array.getElem?_setIfInBounds]
   by_cases e : i = j
   · subst e
     have : i < c.size := by omega
     simp [this]
   · rw [if_neg e, hc j hj]
     show _ = some (if j = i then v else f j)
     rw [if_neg (fun (h : j = i) => e h.symm)]
theorem Row.alloc (h : Row w b t n f) (o : Obj) : Row (w.alloc o) b t n f := h.of_block (Below.heap_alloc _ _ _ h.lt)
theorem Row.bytes (w : World) (t : TypeId) (l : List UInt8) (cap : Nat) : Row (w.alloc (.cells (bytesRow ⟨l.toArray⟩ cap) t ((bytesRow ⟨l.toArray⟩ cap).size, (bytesRow ⟨l.toArray⟩ cap).size + 1))) w.heap.size t l.length (fun j => zn2 (l.getD j 0)) := by
 refine ⟨bytesRow ⟨l.toArray⟩ cap, _, _, heap_alloc_new _ _, by simp [bytesRow], .inr (by simp [bytesRow]), fun i hi => ?_⟩
 rw [bytesRow_at _ _ _ (by simpa using hi)]
 simp [zn2, hi]
end
def Blk (w : World) (g : Nat) (t : TypeId) (cs : Array Value) : Prop := w.heap[g]? = some (.cells cs t (0, 0))
section
variable {w w' : World} {g : Nat} {t : TypeId} {cs : Array Value}
theorem Blk.lt (h : Blk w g t cs) : g < w.heap.size := by
 rcases Nat.lt_or_ge g w.heap.size with hlt | hge
 · exact hlt
 · unfold Blk at h; rw [Array.getElem?_eq_none hge] at h; cases h
theorem Blk.cell (h : Blk w g t cs) (i : Nat) : w.cell? ⟨g, i, none⟩ = cs[i]? := cell_of_row w g i cs t (0, 0) h
theorem Blk.frozen (h : Blk w g t cs) (i : Nat) : w.frozen? ⟨g, i, none⟩ = false := by
 unfold Blk at h
 simp [World.frozen?, h]
theorem Blk.new (w : World) (t : TypeId) (cs : Array Value) : Blk (w.alloc (.cells cs t)) w.heap.size t cs := heap_alloc_new w _
theorem Blk.drew (h : Blk w g t cs) : Blk w.drew g t cs := h
theorem Blk.alloc (h : Blk w g t cs) (o : Obj) : Blk (w.alloc o) g t cs := (Below.heap_alloc w o g h.lt).trans h
theorem Blk.grown {row : Option Nat} (h : Blk w g t cs) (hb : w.grownBy w' row) (hg : some g ≠ row) : Blk w' g t cs := (hb.block g h.lt hg).trans h
end
theorem zn1 {base : Nat} {e : TypeId} {size n : Nat} {v : Value} {xs : List Value} {w w' : World} (hown : w.ownsRow base e size v n xs) (hb : base <= w.heap.size) (hg : w.grownBy w' v.ownBlock) : Below base w w' :=
 (Below.refl _ _).grown hg hb fun k hk => (hown.lt k hk).1
theorem zll {P : Program} {ops : Array Oper} {rest : List Oper} {o : Oper} {a : Act} {Q : Exit -> Act -> World -> Prop} (wr : World) (hgd : o.guard = none) (s x : Operand) (t : TypeId)
   (ho : o.op = .call { callee := .builtin .append, args := #[s, x], argTypes := #[t, t] })
   (base : Nat) (e : TypeId) (z : Value) (bytes : Nat) (ht : P.underlying t = some (.slice e)) (hinfo : (P.info? e).map (fun i => (i.zero, i.size, i.bytes)) = some (some z, 1, bytes)) (hz1 : z.cells.size = 1)
   (v : Value) (n : Nat) (xs : List Value) (hs : a.eval s = v) (hown : wr.ownsRow base e 1 v n xs)
   (c : Value) (h1 : c.oneCell' = true) (hx : a.eval x = .slice (some ⟨wr.heap.size, 0, none⟩) 1 1)
   (hbytes : (n + 1) * bytes <= 140737488355328) (hn : n < 9223372036854775807) (hbase : base <= wr.heap.size)
   (h : ∀ v' w', w'.ownsRow base e 1 v' (n + 1) (xs ++ [c]) -> Below base wr w' -> wpList P ops Q rest (a.put o.dst v') w') : wpList P ops Q (o :: rest) a (wr.alloc (.cells #[c] e)) := by
 obtain ⟨i, hi, hzz⟩ := Option.map_eq_some_iff.1 hinfo
 simp only [Prod.mk.injEq] at hzz
 obtain ⟨hz, hsz, hby⟩ := hzz
 have hown' := hown.alloc (.cells #[c] e)
 refine wpList_append_own _ hgd s x t ho base e i z 1 bytes ht hi hz hsz hby hz1 (by decide) v n xs hs hown' ⟨wr.heap.size, 0, none⟩ 1 1 [c] hx rfl ?_ ?_ ?_ hbytes ?_ ?_
 · intro j u hj
   match j, hj with
   | 0, hj =>
     simp at hj; subst hj
     rw [zjv, cell_of_row _ _ _ _ _ _ (heap_alloc_new wr _)]; rfl
 · intro u hu
   simp at hu; subst hu; exact h1
 · unfold maxLen; omega
 · simp; omega
 · intro v' w' ho' hg _
   exact h v' w' ho' (((Below.refl _ _).alloc hbase _).trans (zn1 hown' (by simp; omega) hg))
theorem zzp {P : Program} {src dst e : TypeId} (hs : P.underlying src = some (.slice e)) (he : P.underlying e = some (.int .u8)) (hd : P.underlying dst = some .string) {w : World} {base n : Nat} {v : Value} (l : List UInt8)
   (h : w.ownsRow base e 1 v n (l.map zn2)) : (convert src dst v).run P w = .ok (.string ⟨l.toArray⟩) w := by
 rcases h.2 with ⟨rfl, rfl⟩ | ⟨g, cap, cur, rfl, _, hh, hnc, _, hsz, hx⟩
 · have hl : l = [] := by have := h.1; simpa using this
   subst hl
   rw [run_convert_bytes_string w src dst e none 0 0 hs he hd]
   simp [Conv.bytesToString]; rfl
 · have hl : l.length = n := by have := h.1; simpa using this
   subst hl
   refine run_convert_bytes_back w src dst e _ cap l hs he hd fun j hj => ?_
   have := h.cells (g := g) rfl j (zn2 l[j]) (by simp [hj])
   exact this
theorem ybx {a b : List UInt8} (h : a = b) : Ending.returned (.string ⟨a.toArray⟩) = .returned (.string ⟨b.toArray⟩) := by rw [h]
theorem zib {P : Program} {a : Act} {w : World} {Q : Exit -> Act -> World -> Prop} {c rest : Code} (l : Nat) (J : Act -> World -> Prop) (μ : Act -> World -> Nat) (hf : findLabel c l = some (.seq .skip rest))
   (pass : ∀ a w, J a w -> rest.wp P (Exit.jump l (fun a' w' => J a' w' /\ μ a' w' < μ a w) Q) a w)
   (first : Hid (∀ a w, J a w -> rest.wp P (Exit.jump l J Q) a w) -> c.wp P (Exit.jump l J Q) a w) : (Code.scope c).wp P Q a w := by
 refine wp_scope_jumps l J μ hf (first fun a w hJ => Code.wp_mono (fun e a' w' hq => ?_) (pass a w hJ)) fun a w hJ => wp_seq (wp_skip (pass a w hJ))
 cases e <;> first | exact hq | exact ⟨hq.1, hq.2.1⟩
section
variable {l : Nat} {J : Act -> World -> Prop} {Q : Exit -> Act -> World -> Prop} {a : Act} {w : World}
@[go_sem] theorem jump_normal : Exit.jump l J Q .normal a w = Q .normal a w := rfl
@[go_sem] theorem jump_exit (id : Nat) : Exit.jump l J Q (.exit id) a w = Q (.exit id) a w := rfl
@[go_sem] theorem jump_ret : Exit.jump l J Q .ret a w = Q .ret a w := rfl
@[go_sem] theorem jump_panic (ch : List PanicEntry) : Exit.jump l J Q (.panic ch) a w = Q (.panic ch) a w := rfl
end
section
variable {H : Type} {enc : TypeId × Value -> H} {P : Program}
theorem zp3 {f : Func} {s : ChangeSpec} {apart fresh handsOn again : Bool} {W W' : World} {args : Array Value} {v : Value} {ds gs : List (DataW H)} {before pa pv : List MemPlace}
   (hW : DataW.Whole enc P f.params.toList s.vars apart W args.toList ds gs before)
   (hres : ∀ (b : Nat) (sp : Nat -> Bool) (hd : Bool), DataW.TrodAll enc P W' b sp hd f.resultTypes.toList (v.resultList f.resultTypes.size) (s.fn H (ds ++ gs)).results [])
   (hargs : ∀ sp : Nat -> Bool, (∀ p ∈ before, sp p.block = true) -> DataW.TrodAll enc P W' 0 sp true f.params.toList args.toList (s.fn H (ds ++ gs)).args pa)
   (hvars : ∀ sp : Nat -> Bool, (∀ p ∈ before, sp p.block = true) -> DataW.TrodVars enc P W' sp s.vars (s.fn H (ds ++ gs)).vars pv)
   (hps : before = pa ++ pv) (hb : Below W.heap.size W W')
   (hok : ∀ (j : Nat) (t : TypeId) (r : Value), f.resultTypes[j]? = some t -> (v.resultList f.resultTypes.size)[j]? = some r -> Value.okWide P W' .any 0 t r) :
   s.post enc P f apart fresh handsOn again W args v W' := by
 have hlt : ∀ p ∈ before, p.block < W.heap.size := fun p hp => hW.lt p hp
 have hold : ∀ p ∈ before, (fun b => decide (b < W.heap.size)) p.block = true := fun p hp => by simpa using hlt p hp
 refine ⟨ds, gs, before, [], pa, pv, hW, hres _ _ _, hargs _ hold, hvars _ hold, World.keptBut_mono (fun p hp => ⟨hp, ?_⟩) (hb.frame (· ∈ before)), fun _ => ?_⟩
 · rw [hps, List.mem_append] at hp
   exact Or.inr hp
 · obtain ⟨_, _, _, _, _, hz, hn⟩ := hW
   refine ⟨hok, _, _, ([] ++ pa) ++ pv, ⟨[] ++ pa, pv, trodAll_append (hargs _ (fun _ _ => rfl)) (hres _ _ _), hvars _ (fun _ _ => rfl), rfl, ?_, ?_⟩, ?_⟩
   · intro b off hp
     have hin : MemPlace.cell b off ∈ before := by rw [hps]; simpa using hp
     rw [hb.frozen (hlt _ hin)]
     exact hz b off hin
   · intro ha
     have := hn ha
     rw [hps] at this
     simpa using this
   · intro p hp _
     rw [hps]
     simpa using hp
theorem zix (hl : laidOutB P = true) {W W' : World} (hb : Below W.heap.size W W') {sp : Nat -> Bool} :
   ∀ {ts : List TypeId} {vs : List Value} {ds : List (DataW H)} {ps : List MemPlace}, (∀ t ∈ ts, P.readableRec t = true /\ t < P.types.size) ->
   DataW.TrodAll enc P W 0 (fun _ => true) true ts vs ds ps -> (∀ x ∈ ps, x.block < W.heap.size) -> (∀ x ∈ ps, sp x.block = true) -> DataW.TrodAll enc P W' 0 sp true ts vs ds ps
 | [], [], [], _, _, h, _, _ => h
 | _ :: _, _ :: _, _ :: _, _, hr, ⟨p, q, h1, h2, e⟩, hlt, hs =>
   ⟨p, q, WideElems.Trod_stays hl (hr _ (List.mem_cons.2 (Or.inl rfl))).1 (hr _ (List.mem_cons.2 (Or.inl rfl))).2 h1
       (fun x hx => hb.same (hlt x (by rw [e]; exact List.mem_append_left _ hx))) (fun x hx => hs x (by rw [e]; exact List.mem_append_left _ hx)),
     zix hl hb (fun t ht => hr t (List.mem_cons.2 (Or.inr ht))) h2 (fun x hx => hlt x (by rw [e]; exact List.mem_append_right _ hx)) (fun x hx => hs x (by rw [e]; exact List.mem_append_right _ hx)), e⟩
theorem post_law {f : Func} {s : ChangeSpec} {apart fresh handsOn again : Bool} {W W' : World} {args : Array Value} {ds : List (DataW H)} {before : List MemPlace} {tb : TypeId}
   (hl : laidOutB P = true) (hr : (f.params.toList.all fun t => P.readableRec t && decide (t < P.types.size)) = true) (hbt : f.resultTypes = #[tb]) (hub : P.underlying tb = some .bool) (hsv : s.vars = [])
   (hW : DataW.Whole enc P f.params.toList s.vars apart W args.toList ds [] before)
   (hfn : s.fn H (ds ++ []) = { results := [.lit (.bool true)], args := ds }) (hb : Below W.heap.size W W') :
   s.post enc P f apart fresh handsOn again W args (.bool true) W' := by
 have hlt : ∀ p ∈ before, p.block < W.heap.size := fun p hp => hW.lt p hp
 obtain ⟨p, q, hA, hV, hpq, _, _⟩ := id hW
 rw [hsv] at hV
 have hq : q = [] := hV
 subst hq
 rw [List.append_nil] at hpq
 subst hpq
 refine zp3 (pa := before) (pv := []) hW ?_ ?_ ?_ (by simp) hb ?_
 · intro _ _ _
   rw [hfn, hbt]
   exact trodAll_mk1 (shut_bool hub true)
 · intro sp hsp
   rw [hfn]
   exact zix hl hb (fun t ht => by simpa using List.all_eq_true.1 hr t ht) hA hlt hsp
 · intro sp _
   rw [hfn, hsv]
   rfl
 · exact ok_one hbt rfl (okWide_bool_mk hub true)
end
end Go.Proofs.YtlphgephdhadhaaGreat
namespace Go.Proofs.YtlphgephdhadhaaGreat
open Go.RowKit
theorem i5 : (Tryz.prog.info? 5).map (fun i => (i.zero, i.size, i.bytes)) = some (some (.int .u8 0), 1, 1) := by kernel_rfl
def cl8 (k : Int) : Nat := (min (max k 0) 8).toNat
def ycc (n : Nat) : Nat -> List UInt8
 | 0 => []
 | i+1 => UInt8.ofNat (n / 256^i) :: ycc n i
theorem yu4 (k : Int) : cl8 k <= 8 := by unfold cl8; omega
theorem zm0 (n c : Nat) : (ycc n c).length = c := by induction c <;> simp_all [ycc]
theorem yhz (n c t : Nat) (h : t < (ycc n c).length) : (ycc n c)[t] = UInt8.ofNat (n / 256 ^ (c - 1 - t)) := by
 induction c generalizing t with
 | zero => simp [ycc] at h
 | succ c ih =>
   rcases t with _ | t
   · simp [ycc]
   · simp only [ycc, List.getElem_cons_succ]
     rw [ih]
     congr 3; omega
set_option maxRecDepth 100000 in
set_option maxHeartbeats 400000 in
theorem ynb (n : Nat) (k : Int) (w : World) (_hn : n < 18446744073709551616) :
   Calls Tryz.prog 79 #[.int .u64 n, .int .i64 k] w fun e w' => e = .returned (.string ⟨(ycc n (cl8 k)).toArray⟩) /\ Below w.heap.size w w' := by
 have h8 := yu4 k
 have hmk := fun W => run_make_row' (P := Tryz.prog) 79 5 (.int .u8 0) 1 Tryz.underlying79 i5 rfl .i64 .i64 (cl8 k) (by omega) (by omega) W
 go_enter Tryz.func79, Tryz.ntmps79
 go_upto_region 1 with (fail)
 go_cut [1] (fun v wx => v = .int .i64 (cl8 k) /\ w = wx)
 case first =>
   go_wp2
   all_goals (go_meet; exact ⟨by unfold cl8; go_num, rfl⟩)
 case rest =>
   obtain ⟨rfl, rfl⟩ := hcut
   generalize hc : cl8 k = c at *
   have Hc := Lib.hid hc
   clear hc
   go_wp2
   go_loopw [0, 6] (fun m i wr => ∃ j x : Nat, j <= c /\ i = .int .i64 ((j : Int) - 1) /\ m = .int .u64 (x : Int) /\ Hid (x = n / 256 ^ (c - j)) /\
      wr.rowIs w.heap.size 5 c (fun t => if t < j then .int .u8 0 else zn2 (UInt8.ofNat (n / 256 ^ (c - 1 - t)))) /\ Below w.heap.size w wr) (fun _ i _ => (intOf i + 1).toNat)
   case atStart =>
     refine ⟨c, n, by omega, by simp, by simp, Lib.hid (by simp), ?_, ?_⟩
     · exact (World.rowIs_made w (.int .u8 0) c 5).congr (fun i hi => by simp [hi])
     · exact (Below.refl _ _).alloc (Nat.le_refl _) _
   case round =>
     obtain ⟨j, x, hj, rfl, rfl, hx, hrow, hb⟩ := hrel
     rcases j with _ | j
     · have hconv := fun cc => yk7 (P := Tryz.prog) (src := 79) (dst := 9) (cap := cc) (ycc n c) Tryz.underlying79 Tryz.underlying5 Tryz.underlying9 hrow (zm0 n c) (fun i hi => by simp [yhz])
       go_wp2
       go_ret
       exact ⟨ybx (by rw [Hc.out]), hb⟩
     · have hc := hrow.cell (i := j) (by omega)
       have hf := hrow.frozen j
       have hs := hrow.set j (.int .u8 ((x : Int) % 256))
       have hB := hb.setCell (p := ⟨w.heap.size, j, none⟩) (Nat.le_refl _) (.int .u8 ((x : Int) % 256))
       have h0 : ((j + 1 : Nat) : Int) - 1 = j := by omega
       rw [h0]
       simp only [Nat.lt_succ_self, if_true] at hc
       clear hrow hb h0
       go_wp2
       go_roundw
       case rel =>
         refine ⟨j, x / 256, by omega, rfl, rfl, Lib.hid ?_, hs.congr fun t ht => ?_, hB⟩
         · rw [hx.out, Nat.div_div_eq_div_mul, <- Nat.pow_succ]; congr 2; omega
         · by_cases h1 : t = j
           · subst h1; rw [if_pos rfl, if_neg (by omega), zis, hx.out, show c - (t + 1) = c - 1 - t by omega]
           · rw [if_neg h1]
             by_cases h2 : t < j
             · rw [if_pos h2, if_pos (by omega)]
             · rw [if_neg h2, if_neg (by omega)]
       case measure => simp [intOf] <;> omega
def ya9 (l : List UInt8) : Nat := l.foldl (fun n b => n * 256 + b.toNat) 0
theorem zs8 (l : List UInt8) (b : UInt8) : ya9 (l ++ [b]) = ya9 l * 256 + b.toNat := by simp [ya9]
theorem zmn (l : List UInt8) (k : Nat) (h : k < l.length) : ya9 (l.take (k + 1)) = ya9 (l.take k) * 256 + l[k].toNat := by
 rw [List.take_succ_eq_append_getElem h, zs8]
theorem yp4 (l : List UInt8) : ya9 l < 256 ^ l.length := by
 rw [<- List.reverse_reverse l]
 induction l.reverse with
 | nil => simp [ya9]
 | cons b l ih =>
   rw [List.reverse_cons, zs8, List.length_append, List.length_singleton, Nat.pow_succ]
   have := b.toNat_lt
   omega
theorem yjs (l : List UInt8) (k : Nat) (h : k < l.length) (h8 : l.length <= 8) : ya9 (l.take k) < 72057594037927936 := by
 have h1 := yp4 (l.take k)
 have h2 : (l.take k).length <= 7 := by rw [List.length_take]; omega
 have h3 : 256 ^ (l.take k).length <= 256 ^ 7 := Nat.pow_le_pow_right (by omega) h2
 omega
theorem ynj (x : Nat) (b : UInt8) (h : x < 72057594037927936) : bits .or .u64 ((x : Int) * 256) (b.toNat : Int) = ((x * 256 + b.toNat : Nat) : Int) := by
 have hb := b.toNat_lt
 have := u64_or_nat (x * 256) b.toNat (by omega) (by omega)
 rw [nat_join 8 (x * 256) b.toNat (by omega) (by omega)] at this
 rw [<- this]; congr 1
set_option maxRecDepth 100000 in
set_option maxHeartbeats 400000 in
theorem yp3 (l : List UInt8) (w : World) (h1 : 1 <= l.length) (h8 : l.length <= 8) :
   Calls Tryz.prog 114 #[.string ⟨l.toArray⟩] w fun e w' => e = .returned (.tuple #[.int .u64 (ya9 l), .int .i64 0]) /\ w = w' := by
 have hne : (l == []) = false := by cases l <;> simp_all
 have hne' : l ≠ [] := by intro h; simp [h] at h1
 go_enter Tryz.func114, Tryz.ntmps114
 go_wp2
 refine zib 0 (fun a' w' => w = w' /\ ∃ (k x : Nat), Hid (x = ya9 (l.take k)) /\ k < l.length /\ x < 72057594037927936 /\ ∃ u1 u2 u3 u6 u7 u8 u9 u10 u11 u12 u13 u14 u15 u16 u17 u18 u19 u20 u21 u22 u23 u24 : Value, a' = ⟨#[.string ⟨l.toArray⟩, u1, u2, u3, .int .u64 (x : Int), .int .i64 (k : Int), u6, u7, u8, u9, u10, u11, u12, u13, u14, u15, u16, u17, u18, u19, u20, u21, u22, u23, u24], []⟩) (fun a' _ => l.length - (intOf (a'.tmps.getD 5 undef)).toNat) rfl ?_ ?_
 · rintro a' w' ⟨rfl, k, x, hx, hk, hx7, u1, u2, u3, u6, u7, u8, u9, u10, u11, u12, u13, u14, u15, u16, u17, u18, u19, u20, u21, u22, u23, u24, rfl⟩
   have hor := ynj x l[k] hx7
   go_wp2
   · go_step3
     exact ⟨rfl, ⟨rfl, k + 1, x * 256 + l[k].toNat, Lib.hid (by rw [zmn l k hk, hx.out]), by omega, by have := yjs l (k + 1) (by omega) h8; rw [zmn l k hk, <- hx.out] at this; exact this, _, _, _, _, _, _, _, _, _, _, _, _, _, _, _, _, _, _, _, _, _, _, by go_num⟩, by simp [intOf] <;> omega⟩
   · go_ret2
     refine ⟨?_, rfl⟩
     have : ya9 l = x * 256 + l[k].toNat := by rw [hx.out, <- zmn l k hk, List.take_of_length_le (by omega)]
     rw [this]; rfl
 · intro hP
   go_wp2
   go_step3
   simp only [Exit.then]
   apply_assumption
   exact hP.out _ _ ⟨rfl, 0, 0, Lib.hid rfl, by omega, by omega, _, _, _, _, _, _, _, _, _, _, _, _, _, _, _, _, _, _, _, _, _, _, rfl⟩
def zdq (n : Nat) : List UInt8 := if n < 128 then [UInt8.ofNat n] else UInt8.ofNat (n % 128 + 128) :: zdq (n / 128)
termination_by n
decreasing_by omega
theorem zbm {n : Nat} (h : n < 128) : zdq n = [UInt8.ofNat n] := by rw [zdq, if_pos h]
theorem ze2 {n : Nat} (h : 128 <= n) : zdq n = UInt8.ofNat (n % 128 + 128) :: zdq (n / 128) := by rw [zdq, if_neg (by omega)]
theorem yw4 (x : Nat) : bits .or .u8 ((x : Int) % 256) 128 = (x : Int) % 128 + 128 := by
 have h := u8_or_nat (x % 256) 128 (by omega) (by omega)
 have h2 : x % 256 ||| 128 = x % 128 + 128 := by
   have e1 : x % 256 = x % 128 + x / 128 % 2 * 128 := by omega
   have h3 : x / 128 % 2 = 0 \/ x / 128 % 2 = 1 := by omega
   have j1 : ∀ y, y < 128 -> 128 ||| y = 128 + y := fun y hy => nat_join 7 128 y (by decide) hy
   have e2 : ∀ y, y < 128 -> (y + 128) ||| 128 = y + 128 := fun y hy => by
     rw [Nat.add_comm y 128, <- j1 y hy, Nat.or_comm 128 y, Nat.or_assoc, Nat.or_self]
   rcases h3 with h3 | h3
   · rw [e1, h3, Nat.or_comm]; simp only [Nat.zero_mul, Nat.add_zero]; rw [j1 _ (by omega)]; omega
   · rw [e1, h3, Nat.one_mul, e2 _ (by omega)]
 rw [h2] at h
 have e : (((x % 256 : Nat) : Int)) = (x : Int) % 256 := by omega
 rw [e] at h
 rw [show ((128 : Nat) : Int) = 128 from rfl] at h
 rw [h]; omega
set_option maxRecDepth 100000 in
set_option maxHeartbeats 400000 in
theorem yb2 (n : Nat) (w : World) (hn : n < 18446744073709551616) :
   Calls Tryz.prog 70 #[.int .u64 n] w fun e w' => e = .returned (.string ⟨(zdq n).toArray⟩) /\ Below w.heap.size w w' := by
 go_enter Tryz.func70, Tryz.ntmps70
 go_wp2
 refine zib 0 (fun a' w' => Below w.heap.size w w' /\ ∃ (x k : Nat) (v : Value) (pre : List UInt8), Hid (pre ++ zdq x = zdq n) /\ x < 18446744073709551616 /\ k <= 10 /\ Hid (x * 128 ^ k <= n) /\ w'.ownsRow w.heap.size 5 1 v k (pre.map zn2) /\ ∃ u1 u2 u4 u5 u6 u7 u8 u9 u10 u11 u12 u13 u14 u15 u16 u17 u18 u19 : Value, a' = ⟨#[.int .u64 (x : Int), u1, u2, v, u4, u5, u6, u7, u8, u9, u10, u11, u12, u13, u14, u15, u16, u17, u18, u19], []⟩) (fun a' _ => (intOf (a'.tmps.getD 0 undef)).toNat) rfl ?_ ?_
 · rintro a' wr ⟨hb, x, k, v, pre, hpre, hx, hk, hxk, hown, u1, u2, u4, u5, u6, u7, u8, u9, u10, u11, u12, u13, u14, u15, u16, u17, u18, u19, rfl⟩
   have hor := yw4 x
   have hsz := hb.size
   by_cases hlt : x < 128
   · have hx8 : ∀ w1 : World, ∀ v1, w1.ownsRow w.heap.size 5 1 v1 (k + 1) (List.map zn2 pre ++ [Value.int .u8 (x : Int)]) -> (convert 79 9 v1).run Tryz.prog w1 = .ok (.string ⟨(pre ++ [UInt8.ofNat x]).toArray⟩) w1 := fun w1 v1 h =>
       zzp (P := Tryz.prog) (src := 79) (dst := 9) (e := 5) Tryz.underlying79 Tryz.underlying5 Tryz.underlying9 (pre ++ [UInt8.ofNat x]) (by
         have e : (Value.int .u8 (x : Int)) = zn2 (UInt8.ofNat x) := by rw [zis]; go_num
         rw [List.map_append, List.map_singleton, <- e]; exact h)
     have Hx8 := Lib.hid hx8
     clear hx8
     go_wp2_with (at_builtin; refine zll _ rfl _ _ 79 rfl w.heap.size 5 (.int .u8 0) 1 Tryz.underlying79 i5 rfl _ _ _ rfl hown _ rfl rfl (by omega) (by omega) hsz ?_; intro v1 w1 hown1 hb1; have hcv := Hx8.out w1 v1 hown1; clear hown1 hown hor)
     go_ret
     exact ⟨ybx (by rw [<- hpre.out, zbm hlt]), hb.trans (by assumption)⟩
   · go_wp2_with (at_builtin; refine zll _ rfl _ _ 79 rfl w.heap.size 5 (.int .u8 0) 1 Tryz.underlying79 i5 rfl _ _ _ rfl hown _ rfl rfl (by omega) (by omega) hsz ?_; intro v1 w1 hown1 hb1)
     go_step3
     have h128 : 128 * 128 ^ k <= n := Nat.le_trans (Nat.mul_le_mul_right _ (by omega)) hxk.out
     have hk9 : k + 1 <= 10 := by
       refine Decidable.byContradiction fun h => ?_
       have : 128 ^ 10 <= 128 ^ k := Nat.pow_le_pow_right (by decide) (by omega)
       have h3 : (128 : Nat) ^ 10 = 1180591620717411303424 := by decide
       omega
     exact ⟨rfl, ⟨hb.trans hb1, x / 128, k + 1, v1, pre ++ [UInt8.ofNat (x % 128 + 128)], Lib.hid (by rw [List.append_assoc, <- hpre.out, ze2 (n := x) (by omega)]; rfl), by omega, hk9, Lib.hid (by
       rw [Nat.pow_succ]; have h4 : x / 128 * (128 ^ k * 128) <= x * 128 ^ k := by
         rw [Nat.mul_comm (128 ^ k) 128, <- Nat.mul_assoc]; exact Nat.mul_le_mul_right _ (by omega)
       exact Nat.le_trans h4 hxk.out), by
       rw [List.map_append, List.map_singleton, zis]; rw [show (((x % 128 + 128 : Nat) : Int) % 256) = (x : Int) % 128 + 128 by omega]; exact hown1, _, _, _, _, _, _, _, _, _, _, _, _, _, _, _, _, _, _, rfl⟩, by simp [intOf]; omega⟩
 · intro hP
   go_wp2
   go_step3
   simp only [Exit.then]
   apply_assumption
   exact hP.out _ _ ⟨Below.refl _ _, n, 0, _, [], Lib.hid rfl, hn, by omega, Lib.hid (by simp), World.ownsRow_nil _ _ _ _, _, _, _, _, _, _, _, _, _, _, _, _, _, _, _, _, _, _, rfl⟩
end Go.Proofs.YtlphgephdhadhaaGreat
namespace Go.Proofs.YtlphgephdhadhaaGreat
open Go.RowKit
def yga (w : World) (g : Nat) (ps : List (List UInt8)) : Prop := ∀ j (h : j < ps.length), w.cell? ⟨g, j, none⟩ = some (.string ⟨ps[j].toArray⟩)
def yaa (ps : List (List UInt8)) : List UInt8 := ps.flatten
end Go.Proofs.YtlphgephdhadhaaGreat
namespace Go.Proofs.YtlphgephdhadhaaGreat
namespace Sy
open Go Go.RowKit
set_option maxRecDepth 100000
def ycb (e n : Int) : List UInt8 := ycc e.toNat (cl8 n)
def getZ (l : List UInt8) : Int := ya9 l
def yhy (e n : Int) : Prop := 0 <= e /\ e < 18446744073709551616 /\ -9223372036854775808 <= n /\ n <= 9223372036854775807
def yjr (l : List UInt8) : Prop := 1 <= l.length /\ l.length <= 8
def upto (n : Nat) (l : List UInt8) : Prop := l.length <= n
def zyv (L : zac) : zcr := (79, fun xs => match xs with | [.int .u64 e, .int .i64 n] => some (L2 L yhy e n, .str (L2 L ycb e n)) | _ => none)
def yp0 (L : zac) : zcr := (114, fun xs => match xs with | [.str l] => some (L yjr l, .tup [.int .u64 (L getZ l), .int .i64 0]) | _ => none)
theorem yrf {x y : AV} {v u : Value} (hx : ∀ h D, R h D zb0 x v) (hy : ∀ h D, R h D zb0 y u) : ∀ h D, R h D zb0 (.tup [x, y]) (.tuple #[v, u]) := by
 intro h D
 refine .tup _ _ rfl ?_
 intro i z t hz ht
 match i with
 | 0 => simp at hz ht; subst hz ht; exact hx h D
 | 1 => simp at hz ht; subst hz ht; exact hy h D
 | i + 2 => simp at hz
theorem ytb (k : IntKind) (n : Int) : ∀ h D, R h D zb0 (.int k n) (.int k n) := fun _ _ => .int k n
theorem yd6 {e : Int} (h : 0 <= e) : ∃ n : Nat, e = n := ⟨e.toNat, by omega⟩
theorem zl1 : zcu Tryz.prog (zyv std) := by
 intro xs p r h hp
 dsimp only [zyv] at h |-
 split at h <;> cases h
 rename_i e n
 obtain ⟨h0, h1, h2, h3⟩ : yhy e n := hp
 obtain ⟨k, rfl⟩ := yd6 h0
 exact zfd (fn := Tryz.f79) rfl rfl (by kernel_rfl) (yui (ziy _ _) (ziy _ _)) (fun h D => yav h D _ _) (fun w => ynb k n w (by omega))
theorem yjq : zcu Tryz.prog (yp0 std) := by
 intro xs p r h hp
 dsimp only [yp0] at h |-
 split at h <;> cases h
 rename_i l
 obtain ⟨h1, h8⟩ : yjr l := hp
 exact zfd (fn := Tryz.f114) rfl rfl (by kernel_rfl) (yqc (zlp _)) (yrf (ytb _ _) (ytb _ _)) (zqg fun w => yp3 l w h1 h8)
end Sy
end Go.Proofs.YtlphgephdhadhaaGreat
namespace Go.Proofs.YtlphgephdhadhaaGreat
namespace Sy
open Go Go.RowKit
set_option maxRecDepth 100000
set_option linter.unusedSimpArgs false
set_option linter.unusedVariables false
abbrev Pr := { l : List Int // l.length = 16 }
structure Le where
 p : Pr
 d : Int
 h : Bool
 deriving DecidableEq
def zfh (p : Pr) : Prop := ∀ x ∈ p.1, 0 <= x /\ x < 256
def zr7 (a : Nat) (p : List Int) : Nat := p.foldl (fun a x => 256 * a + x.toNat) a
def zmj (p : List Int) : Nat := zr7 0 p
theorem zk1 : ∀ (p : List Int) (a : Nat), zr7 a p = a * 256 ^ p.length + zmj p
 | [], a => by simp [zr7, zmj]
 | x :: p, a => by
   have h1 := zk1 p (256 * a + x.toNat)
   have h2 := zk1 p (256 * 0 + x.toNat)
   have e1 : zr7 a (x :: p) = zr7 (256 * a + x.toNat) p := rfl
   have e2 : zmj (x :: p) = zr7 (256 * 0 + x.toNat) p := rfl
   rw [e1, e2, h1, h2, List.length_cons, Nat.pow_succ, Nat.add_mul, Nat.add_mul, Nat.mul_comm 256 a, Nat.mul_assoc, Nat.mul_comm (256 ^ p.length) 256]
   simp only [Nat.mul_zero, Nat.zero_mul]
   omega
theorem zf9 (x : Int) (p : List Int) : zmj (x :: p) = x.toNat * 256 ^ p.length + zmj p := by
 have e2 : zmj (x :: p) = zr7 (256 * 0 + x.toNat) p := rfl
 rw [e2, zk1, Nat.mul_zero, Nat.zero_add]
theorem zin : ∀ {p : List Int}, (∀ x ∈ p, 0 <= x /\ x < 256) -> zmj p < 256 ^ p.length
 | [], _ => by simp [zmj, zr7]
 | x :: p, h => by
   have ih := zin (p := p) (fun y hy => h y (List.mem_cons_of_mem _ hy))
   have hx := h x (by simp)
   rw [zf9, List.length_cons, Nat.pow_succ, Nat.mul_comm (256 ^ p.length)]
   have h1 : (x.toNat + 1) * 256 ^ p.length <= 256 * 256 ^ p.length := Nat.mul_le_mul_right _ (by omega)
   rw [Nat.add_mul, Nat.one_mul] at h1
   omega
theorem zxa : ∀ {p q : List Int}, p.length = q.length -> (∀ x ∈ p, 0 <= x /\ x < 256) -> (∀ x ∈ q, 0 <= x /\ x < 256) -> zmj p = zmj q -> p = q
 | [], [], _, _, _, _ => rfl
 | x :: p, y :: q, hl, hp, hq, h => by
   have hl : p.length = q.length := by simpa using hl
   have h1 := zin (p := p) (fun y hy => hp y (List.mem_cons_of_mem _ hy))
   have h2 := zin (p := q) (fun y hy => hq y (List.mem_cons_of_mem _ hy))
   have hx := hp x (by simp)
   have hy := hq y (by simp)
   rw [zf9, zf9, <- hl] at h
   rw [<- hl] at h2
   have e : x.toNat = y.toNat := by
     rcases Nat.lt_trichotomy x.toNat y.toNat with h3 | h3 | h3
     · have h4 : (x.toNat + 1) * 256 ^ p.length <= y.toNat * 256 ^ p.length := Nat.mul_le_mul_right _ (by omega)
       rw [Nat.add_mul, Nat.one_mul] at h4
       omega
     · exact h3
     · have h4 : (y.toNat + 1) * 256 ^ p.length <= x.toNat * 256 ^ p.length := Nat.mul_le_mul_right _ (by omega)
       rw [Nat.add_mul, Nat.one_mul] at h4
       omega
   have e' : x = y := by omega
   rw [e] at h
   rw [e', zxa hl (fun y hy => hp y (List.mem_cons_of_mem _ hy)) (fun y hy => hq y (List.mem_cons_of_mem _ hy)) (by omega)]
def prN (p : Pr) : Nat := zmj p.1
theorem ycj {p q : Pr} (hp : zfh p) (hq : zfh q) (h : prN p = prN q) : p = q := Subtype.ext (zxa (by rw [p.2, q.2]) hp hq h)
def prB (p : List Int) : List UInt8 := p.map fun x => UInt8.ofNat x.toNat
theorem ygs {x y : Int} (hx : 0 <= x /\ x < 256) (hy : 0 <= y /\ y < 256) : (UInt8.ofNat x.toNat < UInt8.ofNat y.toNat) = (x < y) := by
 rw [UInt8.lt_iff_toNat_lt, UInt8.toNat_ofNat', UInt8.toNat_ofNat', Nat.mod_eq_of_lt (by omega), Nat.mod_eq_of_lt (by omega)]
 exact propext ⟨fun h => by omega, fun h => by omega⟩
theorem yf7 : ∀ {p q : List Int}, p.length = q.length -> (∀ x ∈ p, 0 <= x /\ x < 256) -> (∀ x ∈ q, 0 <= x /\ x < 256) ->
   Lib.compareBytes (prB p) (prB q) = if zmj p < zmj q then -1 else if zmj q < zmj p then 1 else 0
 | [], [], _, _, _ => rfl
 | x :: p, y :: q, hl, hp, hq => by
   have hl : p.length = q.length := by simpa using hl
   have h1 := zin (p := p) (fun y hy => hp y (List.mem_cons_of_mem _ hy))
   have h2 := zin (p := q) (fun y hy => hq y (List.mem_cons_of_mem _ hy))
   have ih := yf7 hl (fun y hy => hp y (List.mem_cons_of_mem _ hy)) (fun y hy => hq y (List.mem_cons_of_mem _ hy))
   have hx := hp x (by simp)
   have hy := hq y (by simp)
   rw [zf9, zf9, <- hl]
   rw [<- hl] at h2
   show (if UInt8.ofNat x.toNat < UInt8.ofNat y.toNat then (-1 : Int) else if UInt8.ofNat y.toNat < UInt8.ofNat x.toNat then 1 else Lib.compareBytes (prB p) (prB q)) = _
   simp only [ygs hx hy, ygs hy hx]
   rcases Int.lt_trichotomy x y with h3 | h3 | h3
   · have h4 : (x.toNat + 1) * 256 ^ p.length <= y.toNat * 256 ^ p.length := Nat.mul_le_mul_right _ (by omega)
     rw [Nat.add_mul, Nat.one_mul] at h4
     rw [if_pos h3, if_pos (by omega)]
   · subst h3
     rw [if_neg (by omega), if_neg (by omega), ih]
     by_cases h5 : zmj p < zmj q
     · rw [if_pos h5, if_pos (by omega)]
     · rw [if_neg h5, if_neg (c := x.toNat * 256 ^ p.length + zmj p < x.toNat * 256 ^ p.length + zmj q) (by omega)]
       by_cases h6 : zmj q < zmj p
       · rw [if_pos h6, if_pos (by omega)]
       · rw [if_neg h6, if_neg (by omega)]
   · have h4 : (y.toNat + 1) * 256 ^ p.length <= x.toNat * 256 ^ p.length := Nat.mul_le_mul_right _ (by omega)
     rw [Nat.add_mul, Nat.one_mul] at h4
     rw [if_neg (by omega), if_pos h3, if_neg (by omega), if_pos (by omega)]
theorem zpk : ∀ {p q : List Int}, p.length = q.length -> (∀ x ∈ p, 0 <= x /\ x < 256) -> (∀ x ∈ q, 0 <= x /\ x < 256) ->
   Op.bytesLess (prB p) (prB q) = decide (zmj p < zmj q)
 | [], [], _, _, _ => rfl
 | x :: p, y :: q, hl, hp, hq => by
   have hl : p.length = q.length := by simpa using hl
   have h1 := zin (p := p) (fun y hy => hp y (List.mem_cons_of_mem _ hy))
   have h2 := zin (p := q) (fun y hy => hq y (List.mem_cons_of_mem _ hy))
   have ih := zpk hl (fun y hy => hp y (List.mem_cons_of_mem _ hy)) (fun y hy => hq y (List.mem_cons_of_mem _ hy))
   have hx := hp x (by simp)
   have hy := hq y (by simp)
   rw [zf9, zf9, <- hl]
   rw [<- hl] at h2
   show (decide (UInt8.ofNat x.toNat < UInt8.ofNat y.toNat) || (UInt8.ofNat x.toNat == UInt8.ofNat y.toNat && Op.bytesLess (prB p) (prB q))) = _
   simp only [ygs hx hy, ih]
   rcases Int.lt_trichotomy x y with h3 | h3 | h3
   · have h4 : (x.toNat + 1) * 256 ^ p.length <= y.toNat * 256 ^ p.length := Nat.mul_le_mul_right _ (by omega)
     rw [Nat.add_mul, Nat.one_mul] at h4
     rw [decide_eq_true h3, Bool.true_or, decide_eq_true (by omega)]
   · subst h3
     rw [decide_eq_false (by omega)]
     simp
   · have h4 : (y.toNat + 1) * 256 ^ p.length <= x.toNat * 256 ^ p.length := Nat.mul_le_mul_right _ (by omega)
     rw [Nat.add_mul, Nat.one_mul] at h4
     have hne : (UInt8.ofNat x.toNat == UInt8.ofNat y.toNat) = false := by
       rw [beq_eq_false_iff_ne]
       intro e
       have := ygs hy hx
       rw [<- e] at this
       have h7 : ¬ (UInt8.ofNat x.toNat < UInt8.ofNat x.toNat) := UInt8.lt_irrefl _
       rw [this] at h7
       exact h7 h3
     rw [decide_eq_false (by omega), hne, Bool.false_and, Bool.false_or, decide_eq_false (by omega)]
def kLe (e : Le) : Nat := prN e.p
def zg1 (e : Le) : Prop := zfh e.p /\ 0 <= e.d /\ e.d <= 255
structure zcs (l : List Le) : Prop where
 ris : l.Pairwise fun a b => kLe a < kLe b
 ok : ∀ e ∈ l, zg1 e
def zdb (k : Nat) : List Le -> Nat
 | [] => 0
 | e :: l => if kLe e < k then zdb k l + 1 else 0
theorem zmc (k : Nat) : ∀ l, zdb k l <= l.length
 | [] => Nat.le_refl _
 | e :: l => by
   have := zmc k l
   unfold zdb
   split <;> simp <;> omega
theorem zk8 {k : Nat} : ∀ {l : List Le} {i : Nat} (hi : i < l.length), i < zdb k l -> kLe l[i] < k
 | e :: l, 0, _, h => by
   unfold zdb at h
   split at h
   · assumption
   · omega
 | e :: l, i + 1, hi, h => by
   unfold zdb at h
   split at h
   · exact zk8 (l := l) (by simpa using hi) (by omega)
   · omega
theorem zpo {k : Nat} : ∀ {l : List Le}, l.Pairwise (fun a b => kLe a < kLe b) -> ∀ {i : Nat} (hi : i < l.length), zdb k l <= i -> k <= kLe l[i]
 | e :: l, hr, 0, _, h => by
   unfold zdb at h
   split at h
   · omega
   · simpa using Nat.not_lt.1 (by assumption)
 | e :: l, hr, i + 1, hi, h => by
   have hr := List.pairwise_cons.1 hr
   unfold zdb at h
   split at h
   · exact zpo hr.2 (i := i) (by simpa using hi) (by omega)
   · have hi' : i < l.length := by simpa using hi
     have := hr.1 l[i] (List.getElem_mem hi')
     simp only [List.getElem_cons_succ]
     omega
theorem yoi {a b : Le} (ha : zg1 a) (hb : zg1 b) (h : kLe a = kLe b) : a.p = b.p := ycj ha.1 hb.1 h
def zby (p : Pr) (l : List Le) : Bool := l.any fun e => decide (e.p = p)
theorem zid {l : List Le} {p : Pr} (hl : zcs l) (hp : zfh p) : zby p l = true ↔ ∃ h : zdb (prN p) l < l.length, l[zdb (prN p) l].p = p := by
 unfold zby
 rw [List.any_eq_true]
 constructor
 · rintro ⟨e, he, h⟩
   have h : e.p = p := of_decide_eq_true h
   obtain ⟨i, hi, rfl⟩ := List.getElem_of_mem he
   have hk : kLe l[i] = prN p := by rw [kLe, h]
   have h1 : ¬ i < zdb (prN p) l := fun h2 => by have := zk8 hi h2; omega
   have h2 : zdb (prN p) l < l.length := by omega
   have h3 := zpo hl.ris h2 (Nat.le_refl _)
   by_cases h4 : zdb (prN p) l = i
   · refine ⟨h2, ?_⟩
     simp only [h4]; exact h
   · have := List.pairwise_iff_getElem.1 hl.ris (zdb (prN p) l) i h2 hi (by omega)
     omega
 · rintro ⟨h, e⟩
   exact ⟨_, List.getElem_mem h, decide_eq_true e⟩
theorem ywk {l : List Le} {p : Pr} (hl : zcs l) (hp : zfh p) (h : zdb (prN p) l < l.length) : (kLe l[zdb (prN p) l] = prN p) ↔ zby p l = true := by
 rw [zid hl hp]
 constructor
 · intro e
   exact ⟨h, ycj (hl.ok _ (List.getElem_mem h)).1 hp e⟩
 · rintro ⟨_, e⟩
   rw [kLe, e]
def zan (l : List Le) (p : Pr) : Le := match l.find? (fun e => decide (e.p = p)) with
 | some e => e
 | none => ⟨p, 0, false⟩
def zeh (i : Nat) (l : List Le) : List Le := l.take i ++ l.drop (i + 1)
def ya8 (i : Nat) (e : Le) (l : List Le) : List Le := l.take i ++ e :: l.drop i
def zbk (e : Le) : Bool := decide (0 < e.d) || e.h
def zem (e : Le) (l : List Le) : List Le := if zby e.p l = true then zeh (zdb (kLe e) l) l else l
def zb1 (l : List Le) (e : Le) : List Le := if zbk e = true then ya8 (zdb (kLe e) l) e (zem e l) else zem e l
theorem yp8 {l : List Le} {p : Pr} (hl : zcs l) (hp : zfh p) (h : zby p l = true) : ∃ hi : zdb (prN p) l < l.length, zan l p = l[zdb (prN p) l] := by
 obtain ⟨hi, e⟩ := (zid hl hp).1 h
 refine ⟨hi, ?_⟩
 unfold zan
 have : l.find? (fun e => decide (e.p = p)) = some l[zdb (prN p) l] := by
   rw [List.find?_eq_some_iff_getElem]
   refine ⟨decide_eq_true e, _, hi, rfl, fun j hj => ?_⟩
   have h1 := zk8 (l := l) (i := j) (by omega) hj
   simp only [Bool.not_eq_eq_eq_not, Bool.not_true, decide_eq_false_iff_not]
   intro h2
   rw [kLe, h2] at h1
   omega
 rw [this]
theorem zuf {l : List Le} {p : Pr} (h : zby p l = false) : zan l p = ⟨p, 0, false⟩ := by
 unfold zan
 have : l.find? (fun e => decide (e.p = p)) = none := by
   rw [List.find?_eq_none]
   intro e he h2
   unfold zby at h
   rw [List.any_eq_false] at h
   exact h e he h2
 rw [this]
theorem zpp (l : List Le) (p : Pr) : (zan l p).p = p := by
 unfold zan
 split
 · rename_i e h
   have := List.find?_some h
   exact of_decide_eq_true this
 · rfl
theorem zjf {l : List Le} {p : Pr} (hl : zcs l) (hp : zfh p) : zg1 (zan l p) := by
 unfold zan
 split
 · rename_i e h
   exact hl.ok _ (List.mem_of_find?_eq_some h)
 · exact ⟨hp, Int.le_refl _, by show (0 : Int) <= 255; decide⟩
theorem zmd {i : Nat} {l : List Le} {e : Le} (h : e ∈ zeh i l) : e ∈ l := by
 unfold zeh at h
 rcases List.mem_append.1 h with h | h
 · exact List.mem_of_mem_take h
 · exact List.mem_of_mem_drop h
theorem zlc {i : Nat} {l : List Le} (hl : zcs l) : zcs (zeh i l) := by
 refine ⟨?_, fun e he => hl.ok e (zmd he)⟩
 refine hl.ris.sublist ?_
 unfold zeh
 conv => rhs; rw [<- List.take_append_drop i l]
 exact List.Sublist.append (List.Sublist.refl _) (List.drop_sublist_drop_left l (Nat.le_succ i))
theorem zg5 {i : Nat} {l : List Le} (h : i < l.length) : (zeh i l).length + 1 = l.length := by
 unfold zeh; simp; omega
theorem yj3 {e : Le} {l : List Le} (hl : zcs l) : zcs (zem e l) := by
 unfold zem
 split
 · exact zlc hl
 · exact hl
theorem zj4 {e : Le} {l : List Le} (hl : zcs l) (he : zg1 e) : (∀ x ∈ (zem e l).take (zdb (kLe e) l), kLe x < kLe e) /\ (∀ x ∈ (zem e l).drop (zdb (kLe e) l), kLe e < kLe x) /\ zdb (kLe e) l <= (zem e l).length := by
 have hlb := zmc (kLe e) l
 unfold zem
 by_cases h : zby e.p l = true
 · rw [if_pos h]
   obtain ⟨hi, h2⟩ := (zid hl he.1).1 h
   have hi : zdb (kLe e) l < l.length := hi
   have h2 : l[zdb (kLe e) l].p = e.p := h2
   unfold zeh
   refine ⟨?_, ?_, by simp; omega⟩
   · intro x hx
     rw [List.take_append_of_le_length (by simp; omega), List.take_take, Nat.min_self] at hx
     obtain ⟨j, hj, rfl⟩ := List.mem_take_iff_getElem.1 hx
     exact zk8 (by omega) (by omega)
   · intro x hx
     rw [List.drop_append_of_le_length (by simp; omega), List.drop_eq_nil_of_le (by simp; omega), List.nil_append] at hx
     obtain ⟨j, hj, rfl⟩ := List.mem_drop_iff_getElem.1 hx
     have := List.pairwise_iff_getElem.1 hl.ris (zdb (kLe e) l) (zdb (kLe e) l + 1 + j) hi (by omega) (by omega)
     have h3 : kLe l[zdb (kLe e) l] = kLe e := by rw [kLe, h2]; rfl
     omega
 · rw [if_neg h]
   refine ⟨?_, ?_, hlb⟩
   · intro x hx
     obtain ⟨j, hj, rfl⟩ := List.mem_take_iff_getElem.1 hx
     exact zk8 (by omega) (by omega)
   · intro x hx
     obtain ⟨j, hj, rfl⟩ := List.mem_drop_iff_getElem.1 hx
     have h3 := zpo hl.ris (k := kLe e) (i := zdb (kLe e) l + j) (by omega) (by omega)
     rcases Nat.lt_or_eq_of_le h3 with h4 | h4
     · exact h4
     · exfalso
       apply h
       unfold zby
       rw [List.any_eq_true]
       exact ⟨_, List.getElem_mem _, decide_eq_true (yoi (hl.ok _ (List.getElem_mem _)) he h4.symm)⟩
theorem zla {l : List Le} {e : Le} (hl : zcs l) (he : zg1 e) : zcs (zb1 l e) := by
 obtain ⟨h1, h2, h3⟩ := zj4 hl he
 have ho := yj3 (e := e) hl
 unfold zb1
 by_cases hk : zbk e = true
 · rw [if_pos hk]
   unfold ya8
   refine ⟨?_, ?_⟩
   · rw [List.pairwise_append]
     refine ⟨ho.ris.sublist (List.take_sublist _ _), ?_, ?_⟩
     · rw [List.pairwise_cons]
       exact ⟨fun x hx => h2 x hx, ho.ris.sublist (List.drop_sublist _ _)⟩
     · intro a ha b hb
       rcases List.mem_cons.1 hb with rfl | hb
       · exact h1 a ha
       · exact Nat.lt_trans (h1 a ha) (h2 b hb)
   · intro x hx
     rcases List.mem_append.1 hx with hx | hx
     · exact ho.ok x (List.mem_of_mem_take hx)
     · rcases List.mem_cons.1 hx with rfl | hx
       · exact he
       · exact ho.ok x (List.mem_of_mem_drop hx)
 · rw [if_neg hk]; exact ho
theorem ydt {e : Le} {l : List Le} (hl : zcs l) (he : zg1 e) : (zem e l).length + (if zby e.p l = true then 1 else 0) = l.length := by
 unfold zem
 by_cases h : zby e.p l = true
 · obtain ⟨hi, _⟩ := (zid hl he.1).1 h
   rw [if_pos h, if_pos h]; exact zg5 hi
 · rw [if_neg h, if_neg h]; rfl
theorem zlb {i : Nat} {e : Le} {l : List Le} (h : i <= l.length) : (ya8 i e l).length = l.length + 1 := by
 unfold ya8; simp; omega
theorem zrw {l : List Le} {e : Le} (hl : zcs l) (he : zg1 e) : (zb1 l e).length <= l.length + (if zby e.p l = true then 0 else 1) /\ (zbk e = false -> (zb1 l e).length <= l.length) := by
 have h1 := ydt hl he
 have h3 := (zj4 hl he).2.2
 unfold zb1
 by_cases hk : zbk e = true
 · rw [if_pos hk, zlb h3]
   refine ⟨?_, fun h => by rw [hk] at h; cases h⟩
   by_cases h : zby e.p l = true
   · rw [if_pos h] at h1 |-; omega
   · rw [if_neg h] at h1 |-; omega
 · rw [if_neg hk]
   refine ⟨by omega, fun _ => by omega⟩
def zep (e : Le) (s : List Le × Bool) (x : Le) : List Le × Bool :=
 if x.p = e.p then s else if s.2 = false /\ kLe e < kLe x then (s.1 ++ [e, x], true) else (s.1 ++ [x], s.2)
def rpN (e : Le) (l : List Le) (n : Nat) : List Le × Bool := (l.take n).foldl (zep e) ([], !zbk e)
def zx0 (l : List Le) (e : Le) : List Le := let s := rpN e l l.length; if s.2 = true then s.1 else s.1 ++ [e]
theorem zox {e : Le} {l : List Le} {n : Nat} (h : n < l.length) : rpN e l (n + 1) = zep e (rpN e l n) l[n] := by
 unfold rpN
 rw [List.take_succ_eq_append_getElem h, List.foldl_append]; rfl
theorem zth (e : Le) (l : List Le) : ∀ n, (rpN e l n).1.length <= 2 * n
 | 0 => by simp [rpN]
 | n + 1 => by
   by_cases h : n < l.length
   · have ih := zth e l n
     rw [zox h]
     unfold zep
     split
     · omega
     · split
       · simp only [List.length_append, List.length_cons, List.length_nil]; omega
       · simp only [List.length_append, List.length_cons, List.length_nil]; omega
   · have ih := zth e l n
     have : rpN e l (n + 1) = rpN e l n := by
       unfold rpN
       rw [List.take_of_length_le (by omega), List.take_of_length_le (by omega)]
     rw [this]; omega
theorem zow {e : Le} : ∀ {l : List Le} (a : List Le), (∀ x ∈ l, kLe e < kLe x) -> l.foldl (zep e) (a, true) = (a ++ l, true)
 | [], a, _ => by simp
 | x :: l, a, h => by
   have hx := h x (by simp)
   have hne : ¬ x.p = e.p := fun h2 => by rw [kLe, kLe, h2] at hx; omega
   rw [List.foldl_cons]
   have : zep e (a, true) x = (a ++ [x], true) := by
     unfold zep
     rw [if_neg hne, if_neg (by simp)]
   rw [this, zow (a ++ [x]) (fun y hy => h y (List.mem_cons_of_mem _ hy))]
   simp
theorem zvm {e : Le} : ∀ {l : List Le} (a : List Le) (b : Bool), (∀ x ∈ l, kLe x < kLe e) -> l.foldl (zep e) (a, b) = (a ++ l, b)
 | [], a, b, _ => by simp
 | x :: l, a, b, h => by
   have hx := h x (by simp)
   have hne : ¬ x.p = e.p := fun h2 => by rw [kLe, kLe, h2] at hx; omega
   rw [List.foldl_cons]
   have : zep e (a, b) x = (a ++ [x], b) := by
     unfold zep
     rw [if_neg hne, if_neg (by simp; omega)]
   rw [this, zvm (a ++ [x]) b (fun y hy => h y (List.mem_cons_of_mem _ hy))]
   simp
theorem yrx {e : Le} {l : List Le} (s : List Le × Bool) (hl : zcs l) (he : zg1 e) : l.foldl (zep e) s = (zem e l).foldl (zep e) s := by
 unfold zem
 by_cases h : zby e.p l = true
 · rw [if_pos h]
   obtain ⟨hi, h2⟩ := (zid hl he.1).1 h
   have hi : zdb (kLe e) l < l.length := hi
   have h2 : l[zdb (kLe e) l].p = e.p := h2
   unfold zeh
   conv => lhs; rw [<- List.take_append_drop (zdb (kLe e) l) l, List.drop_eq_getElem_cons hi]
   rw [List.foldl_append, List.foldl_append, List.foldl_cons]
   congr 1
   unfold zep
   rw [if_pos h2]
 · rw [if_neg h]
theorem zrv {l : List Le} {e : Le} (hl : zcs l) (he : zg1 e) : zx0 l e = zb1 l e := by
 obtain ⟨h1, h2, h3⟩ := zj4 hl he
 unfold zx0 rpN
 rw [List.take_length, yrx _ hl he]
 conv => lhs; rw [<- List.take_append_drop (zdb (kLe e) l) (zem e l), List.foldl_append, zvm _ _ h1, List.nil_append]
 unfold zb1
 cases hk : zbk e with
 | false =>
   rw [Bool.not_false, zow _ h2, List.take_append_drop]
   simp
 | true =>
   rw [Bool.not_true, if_pos rfl]
   unfold ya8
   generalize hd : (zem e l).drop (zdb (kLe e) l) = r at h2
   cases r with
   | nil => simp
   | cons x r =>
     have hx := h2 x (by simp)
     have hne : ¬ x.p = e.p := fun h2 => by rw [kLe, kLe, h2] at hx; omega
     rw [List.foldl_cons]
     have : zep e ((zem e l).take (zdb (kLe e) l), false) x = ((zem e l).take (zdb (kLe e) l) ++ [e, x], true) := by
       unfold zep
       rw [if_neg hne, if_pos ⟨rfl, hx⟩]
     rw [this, zow _ (fun y hy => h2 y (List.mem_cons_of_mem _ hy))]
     simp
theorem ysm {l : List Le} (hl : zcs l) {a b : Le} (ha : a ∈ l) (hb : b ∈ l) (h : a.p = b.p) : a = b := by
 obtain ⟨i, hi, rfl⟩ := List.getElem_of_mem ha
 obtain ⟨j, hj, rfl⟩ := List.getElem_of_mem hb
 have hk : kLe l[i] = kLe l[j] := by rw [kLe, h]; rfl
 rcases Nat.lt_trichotomy i j with h1 | h1 | h1
 · have := List.pairwise_iff_getElem.1 hl.ris i j hi hj h1; omega
 · subst h1; rfl
 · have := List.pairwise_iff_getElem.1 hl.ris j i hj hi h1; omega
theorem yp2 {l : List Le} (hl : zcs l) {e : Le} (he : e ∈ l) : zan l e.p = e := by
 unfold zan
 cases h : l.find? (fun x => decide (x.p = e.p)) with
 | some x => exact ysm hl (List.mem_of_find?_eq_some h) he (of_decide_eq_true (by simpa using List.find?_some h))
 | none =>
   rw [List.find?_eq_none] at h
   exact absurd (decide_eq_true rfl) (h e he)
theorem yoy {l : List Le} {p : Pr} : zby p l = true ↔ ∃ e ∈ l, e.p = p := by
 unfold zby
 rw [List.any_eq_true]
 exact ⟨fun ⟨e, h1, h2⟩ => ⟨e, h1, of_decide_eq_true h2⟩, fun ⟨e, h1, h2⟩ => ⟨e, h1, decide_eq_true h2⟩⟩
def yez (e : Le) (k : Int) : Le := ⟨e.p, min (e.d + 1) 255, e.h || decide (k <= min (e.d + 1) 255)⟩
def firstFree (l : List Le) : Nat := l.findIdx fun e => !e.h
def zia (l : List Le) (p : Pr) : Bool := !zby p l && decide (64 <= l.length)
def zd9 (l : List Le) (p : Pr) : List Le := if zia l p = true then zeh (firstFree l) l else l
def zcm (l : List Le) (p : Pr) (k : Int) : Int := if k < 1 \/ 255 < k then 7 else if zia l p = true /\ ¬ firstFree l < l.length then 17 else 0
def zcl (l : List Le) (p : Pr) (k : Int) : List Le := if zcm l p k = 0 then zb1 (zd9 l p) (yez (zan l p) k) else []
theorem zq4 {e : Le} (k : Int) (h : zg1 e) : zg1 (yez e k) := by
 obtain ⟨h1, h2, h3⟩ := h
 exact ⟨h1, by show 0 <= min _ _; omega, by show min _ _ <= 255; omega⟩
theorem ybv {l : List Le} (p : Pr) (hl : zcs l) : zcs (zd9 l p) := by
 unfold zd9
 split
 · exact zlc hl
 · exact hl
theorem zxo {l : List Le} {p : Pr} (k : Int) (hl : zcs l) (hp : zfh p) : zcs (zcl l p k) := by
 unfold zcl
 split
 · exact zla (ybv p hl) (zq4 k (zjf hl hp))
 · exact ⟨List.Pairwise.nil, fun e h => by cases h⟩
theorem zsn {l : List Le} {p : Pr} (k : Int) (hl : zcs l) (hp : zfh p) (h64 : l.length <= 64) : (zcl l p k).length <= 64 := by
 unfold zcl
 split
 · rename_i h
   have h1 := (zrw (ybv p hl) (zq4 k (zjf hl hp))).1
   have hd : (yez (zan l p) k).p = p := zpp l p
   rw [hd] at h1
   by_cases hf : zia l p = true
   · have hr : zd9 l p = zeh (firstFree l) l := if_pos hf
     have hlt : firstFree l < l.length := by
       unfold zcm at h
       split at h
       · cases h
       · split at h
         · cases h
         · rename_i h2
           exact Classical.byContradiction fun h3 => h2 ⟨hf, h3⟩
     have := zg5 hlt
     rw [hr] at h1 |-
     have : (if zby p (zeh (firstFree l) l) = true then 0 else 1) <= 1 := by split <;> omega
     omega
   · have hr : zd9 l p = l := if_neg hf
     rw [hr] at h1 |-
     unfold zia at hf
     by_cases hh : zby p l = true
     · rw [if_pos hh] at h1; omega
     · rw [if_neg hh] at h1
       have hh : zby p l = false := by simpa using hh
       rw [hh] at hf
       simp at hf
       omega
 · simp
end Sy
end Go.Proofs.YtlphgephdhadhaaGreat
namespace Go.Proofs.YtlphgephdhadhaaGreat
namespace Sy
open Go Go.RowKit
set_option linter.unusedVariables false
def DW (W : World) : Nat -> Prop := fun b => b < W.heap.size
structure zht {H : Type} (enc : TypeId × Value -> H) (P : Program) (W : World) (t : TypeId) (α : Type) (sz : Nat) (av : α -> Nat -> AV) (ok : α -> Prop) : Prop where
 size : P.cellsOf t = sz
 go : ∀ fuel cs x, DataW.trod enc P W 0 (fun _ => true) true fuel t cs = some x -> ∃ y : α, ok y /\ cs.length = sz /\ ∀ j, j < sz -> ∃ v, cs[j]? = some v /\ one v /\ R W.heap (DW W) zb0 (av y j) v
structure zxx {H : Type} (enc : TypeId × Value -> H) (P : Program) (W : World) (fs : List Field) (off : Nat) (α : Type) (sz : Nat) (av : α -> Nat -> AV) (ok : α -> Prop) : Prop where
 go : ∀ fuel (cs : List Value) (xs : List (DataW H × List MemPlace)), (∀ (i : Nat) (f : Field), fs[i]? = some f -> ∃ x, DataW.trod enc P W 0 (fun _ => true) true fuel f.type ((cs.drop f.offset).take (P.cellsOf f.type)) = some x) -> ∃ y : α, ok y /\ ∀ j, j < sz -> ∃ v, cs[off + j]? = some v /\ one v /\ R W.heap (DW W) zb0 (av y j) v
theorem sgl {h : Array Obj} {D : Nat -> Prop} {f : Nat -> AV} {v : Value} (h1 : one v) (h2 : R h D zb0 (f 0) v) : ∀ j, j < 1 -> ∃ u, [v][j]? = some u /\ one u /\ R h D zb0 (f j) u := by
 intro j hj
 obtain rfl : j = 0 := by omega
 exact ⟨v, rfl, h1, h2⟩
theorem zu0 {α : Type} (p : Nat -> α -> Prop) : ∀ n, (∀ i, i < n -> ∃ y, p i y) -> ∃ l : List α, l.length = n /\ ∀ i, i < n -> ∃ y, l[i]? = some y /\ p i y
 | 0, _ => ⟨[], rfl, fun i hi => by omega⟩
 | m + 1, h => by
   obtain ⟨l, e1, e2⟩ := zu0 p m (fun i hi => h i (by omega))
   obtain ⟨y, hy⟩ := h m (by omega)
   refine ⟨l ++ [y], by simp [e1], fun i hi => ?_⟩
   by_cases hi' : i < m
   · obtain ⟨z, z1, z2⟩ := e2 i hi'
     exact ⟨z, by rw [List.getElem?_append_left (by omega)]; exact z1, z2⟩
   · have : i = m := by omega
     subst this
     exact ⟨y, by rw [<- e1]; simp, hy⟩
section
variable {H : Type} {enc : TypeId × Value -> H} {P : Program} {W : World}
theorem zj5 {t : TypeId} {k : IntKind} (ht : P.underlying t = some (.int k)) (hc : P.cellsOf t = 1) : zht enc P W t Int 1 (fun n _ => .int k n) (fun n => (Lit.int k n).wf = true) := by
 refine ⟨hc, fun fuel cs x h => ?_⟩
 obtain ⟨n, rfl, rfl, hw⟩ := DataW.trod_int ht h
 exact ⟨n, hw, rfl, sgl rfl (.int k n)⟩
def avL {α : Type} (av : α -> Nat -> AV) (l : List α) (i j : Nat) : AV := match l[i]? with | some y => av y j | none => .dead
theorem opens_slice {t e : TypeId} {α : Type} {sz : Nat} {av : α -> Nat -> AV} {ok : α -> Prop} (ht : P.underlying t = some (.slice e)) (hc : P.cellsOf t = 1) (he : zht enc P W e α sz av ok) (hs : 0 < sz) :
   zht enc P W t (List α) 1 (fun l _ => .lst sz l.length (avL av l)) (fun l => l.length <= maxLen /\ ∀ y ∈ l, ok y) := by
 refine ⟨hc, fun fuel cs x h => ?_⟩
 rcases DataW.trod_slice ht h with ⟨rfl, rfl⟩ | ⟨a, len, cap, elems, rest, n, _, rfl, rfl, hb, hl, hm, hlen, hel, _, _⟩
 · exact ⟨[], ⟨Nat.zero_le _, fun y hy => by cases hy⟩, rfl, sgl rfl (.lst0 _ _ _ _ (fun _ => rfl))⟩
 · have each : ∀ i, i < len -> ∃ y : α, ok y /\ ∀ j, j < sz -> ∃ v, W.cell? ((a.add (i * sz)).add j) = some v /\ one v /\ R W.heap (DW W) zb0 (av y j) v := by
     intro i hi
     have h1 := hel i hi
     rw [he.size] at h1
     obtain ⟨z, hz⟩ : ∃ z, elems[i]? = some z := ⟨elems[i], by simp [hlen, hi]⟩
     rw [hz, Option.bind_eq_some_iff] at h1
     obtain ⟨cs', h2, h3⟩ := h1
     obtain ⟨y, y1, y2, y3⟩ := he.go _ _ _ h3
     refine ⟨y, y1, fun j hj => ?_⟩
     obtain ⟨v, v1, v2, v3⟩ := y3 j hj
     exact ⟨v, by rw [(World.cells?_some h2).2.2 j hj]; exact v1, v2, v3⟩
   obtain ⟨l, hl1, hl2⟩ : ∃ l : List α, l.length = len /\ ∀ i, i < len -> ∃ y, l[i]? = some y /\ ok y /\ ∀ j, j < sz -> ∃ v, W.cell? ((a.add (i * sz)).add j) = some v /\ one v /\ R W.heap (DW W) zb0 (av y j) v :=
     zu0 (fun i y => ok y /\ ∀ j, j < sz -> ∃ v, W.cell? ((a.add (i * sz)).add j) = some v /\ one v /\ R W.heap (DW W) zb0 (av y j) v) len each
   refine ⟨l, ⟨by omega, fun y hy => ?_⟩, rfl, sgl rfl ?_⟩
   · obtain ⟨i, hi, rfl⟩ := List.getElem_of_mem hy
     obtain ⟨z, z1, z2, _⟩ := hl2 i (by omega)
     rw [List.getElem?_eq_getElem hi] at z1
     cases z1; exact z2
   · show R W.heap (DW W) zb0 (.lst sz l.length (avL av l)) _
     by_cases h0 : len = 0
     · subst h0; rw [hl1]; exact .lst0 _ _ _ _ (fun h => by cases h)
     · have cell : ∀ i j, i < len -> j < sz -> ∃ v, hcell W.heap a.block (a.off + i * sz + j) = some v /\ one v /\ R W.heap (DW W) zb0 (avL av l i j) v := by
         intro i j hi hj
         obtain ⟨y, y1, _, y3⟩ := hl2 i hi
         obtain ⟨v, v1, v2, v3⟩ := y3 j hj
         refine ⟨v, ?_, v2, by rw [avL, y1]; exact v3⟩
         rw [<- zh2]
         have hsp : ∀ p : Addr, W.cell? p = some v -> p.spot = none := by
           intro p hp
           unfold World.cell? at hp
           split at hp
           · split at hp
             · cases hp
             · rename_i hn; simpa using hn
           · cases hp
         have h1 := hsp _ v1
         have e : (a.add (i * sz)).add j = ⟨a.block, a.off + i * sz + j, none⟩ := by
           have hb1 : ((a.add (i * sz)).add j).block = a.block := by simp only [Addr.add]; split <;> split <;> rfl
           have hb2 : ((a.add (i * sz)).add j).off = a.off + i * sz + j := by simp only [Addr.add]; split <;> split <;> simp_all
           cases hq : (a.add (i * sz)).add j with
           | mk b o s => rw [hq] at h1 hb1 hb2; simp_all
         rw [<- e]; exact v1
       have hsp0 : a.spot = none := by
         obtain ⟨y, _, _, y3⟩ := hl2 0 (by omega)
         obtain ⟨v, v1, _⟩ := y3 0 hs
         rw [Nat.zero_mul] at v1
         simp only [Addr.add, if_true] at v1
         unfold World.cell? at v1
         split at v1
         · split at v1
           · cases v1
           · rename_i hn; simpa using hn
         · cases v1
       have hD : DW W a.block := by
         obtain ⟨v, v1, _⟩ := cell 0 0 (by omega) hs
         refine Classical.byContradiction fun hn => ?_
         unfold hcell at v1
         rw [Array.getElem?_eq_none (by unfold DW at hn; omega)] at v1
         cases v1
       have ea : a = ⟨a.block, a.off, none⟩ := by cases a; simp_all
       rw [ea, <- hl1]
       refine .lst sz l.length (avL av l) a.block a.off cap (fun i j => (hcell W.heap a.block (a.off + i * sz + j)).getD undef) hD (by omega) (fun i j hi hj => ?_) (fun i j hi hj => ?_) (fun i j hi hj => ?_)
       all_goals
         obtain ⟨v, v1, v2, v3⟩ := cell i j (by omega) hj
         rw [v1]
         first | rfl | exact v2 | exact v3
theorem ycs {t e : TypeId} {α : Type} {sz n : Nat} {av : α -> Nat -> AV} {ok : α -> Prop} (ht : P.underlying t = some (.array n e)) (hc : P.cellsOf t = n * sz) (he : zht enc P W e α sz av ok) (hs : 0 < sz) :
   zht enc P W t (List α) (n * sz) (fun l j => avL av l (j / sz) (j % sz)) (fun l => l.length = n /\ ∀ y ∈ l, ok y) := by
 refine ⟨hc, fun fuel cs x h => ?_⟩
 obtain ⟨xs, m, _, rfl, hl, hx, hel⟩ := DataW.trod_array ht h
 obtain ⟨l, hl1, hl2⟩ : ∃ l : List α, l.length = n /\ ∀ i, i < n -> ∃ y, l[i]? = some y /\ ok y /\ ∀ j, j < sz -> ∃ v, cs[i * sz + j]? = some v /\ one v /\ R W.heap (DW W) zb0 (av y j) v :=
   zu0 (fun i y => ok y /\ ∀ j, j < sz -> ∃ v, cs[i * sz + j]? = some v /\ one v /\ R W.heap (DW W) zb0 (av y j) v) n (fun i hi => by
     have h1 := hel i hi
     rw [he.size, List.getElem?_eq_getElem (by omega)] at h1
     obtain ⟨y, y1, y2, y3⟩ := he.go _ _ _ h1
     refine ⟨y, y1, fun j hj => ?_⟩
     obtain ⟨v, v1, v2⟩ := y3 j hj
     rw [List.getElem?_take, if_pos hj, List.getElem?_drop] at v1
     exact ⟨v, v1, v2⟩)
 refine ⟨l, ⟨hl1, fun y hy => ?_⟩, by rw [hl, hc], fun j hj => ?_⟩
 · obtain ⟨i, hi, rfl⟩ := List.getElem_of_mem hy
   obtain ⟨z, z1, z2, _⟩ := hl2 i (by omega)
   rw [List.getElem?_eq_getElem hi] at z1
   cases z1; exact z2
 · have hi : j / sz < n := Nat.div_lt_of_lt_mul (by rw [Nat.mul_comm]; exact hj)
   obtain ⟨z, z1, _, z3⟩ := hl2 (j / sz) hi
   obtain ⟨v, v1, v2⟩ := z3 (j % sz) (Nat.mod_lt _ hs)
   rw [show j / sz * sz + j % sz = j by rw [Nat.mul_comm]; exact Nat.div_add_mod j sz] at v1
   exact ⟨v, v1, by unfold avL; rw [z1]; exact v2⟩
theorem zyz (off : Nat) : zxx enc P W [] off Unit 0 (fun _ _ => .dead) (fun _ => True) := ⟨fun _ _ _ _ => ⟨(), trivial, fun j hj => by omega⟩⟩
theorem zii {f : Field} {fs : List Field} {off : Nat} {α β : Type} {sz sz' : Nat} {av : α -> Nat -> AV} {av' : β -> Nat -> AV} {ok : α -> Prop} {ok' : β -> Prop} (ho : f.offset = off) (hf : zht enc P W f.type α sz av ok) (hr : zxx enc P W fs (off + sz) β sz' av' ok') :
   zxx enc P W (f :: fs) off (α × β) (sz + sz') (fun y j => if j < sz then av y.1 j else av' y.2 (j - sz)) (fun y => ok y.1 /\ ok' y.2) := by
 refine ⟨fun fuel cs xs h => ?_⟩
 obtain ⟨x, hx⟩ := h 0 f rfl
 obtain ⟨y, y1, y2, y3⟩ := hf.go _ _ _ hx
 obtain ⟨z, z1, z2⟩ := hr.go fuel cs xs (fun i g hg => h (i + 1) g hg)
 refine ⟨(y, z), ⟨y1, z1⟩, fun j hj => ?_⟩
 by_cases hlt : j < sz
 · obtain ⟨v, v1, v2, v3⟩ := y3 j hlt
   refine ⟨v, ?_, v2, by simp only [if_pos hlt]; exact v3⟩
   rw [hf.size, List.getElem?_take, if_pos hlt, List.getElem?_drop, ho] at v1
   exact v1
 · obtain ⟨v, v1, v2, v3⟩ := z2 (j - sz) (by omega)
   refine ⟨v, ?_, v2, by simp only [if_neg hlt]; exact v3⟩
   rw [<- v1]; congr 1; omega
theorem zrc {t : TypeId} {fs : Array Field} {α : Type} {sz : Nat} {av : α -> Nat -> AV} {ok : α -> Prop} (ht : P.underlying t = some (.struct fs)) (hc : P.cellsOf t = sz) (hf : zxx enc P W fs.toList 0 α sz av ok) : zht enc P W t α sz av ok := by
 refine ⟨hc, fun fuel cs x h => ?_⟩
 obtain ⟨xs, n, rfl, rfl, hl, hx, hfs⟩ := DataW.trod_struct ht h
 obtain ⟨y, y1, y2⟩ := hf.go n cs xs (fun i f hi => by
   have := hfs i f (by simpa using hi)
   have hlt : i < xs.length := by rw [hx]; simpa using (List.getElem?_eq_some_iff.1 hi).1
   exact ⟨xs[i], by rw [this]; simp [hlt]⟩)
 exact ⟨y, y1, by omega, fun j hj => by obtain ⟨v, v1, v2⟩ := y2 j hj; exact ⟨v, by simpa using v1, v2⟩⟩
theorem zht.map {t : TypeId} {α β : Type} {sz : Nat} {av : α -> Nat -> AV} {av' : β -> Nat -> AV} {ok : α -> Prop} {ok' : β -> Prop} (O : zht enc P W t α sz av ok) (f : α -> β) (h1 : ∀ y j, j < sz -> av y j = av' (f y) j) (h2 : ∀ y, ok y -> ok' (f y)) : zht enc P W t β sz av' ok' := by
 refine ⟨O.size, fun fuel cs x h => ?_⟩
 obtain ⟨y, y1, y2, y3⟩ := O.go fuel cs x h
 refine ⟨f y, h2 y y1, y2, fun j hj => ?_⟩
 obtain ⟨v, v1, v2, v3⟩ := y3 j hj
 exact ⟨v, v1, v2, by rw [<- h1 y j hj]; exact v3⟩
theorem open_one {t : TypeId} {α : Type} {av : α -> Nat -> AV} {ok : α -> Prop} {v : Value} {d : DataW H} {p : List MemPlace} (O : zht enc P W t α 1 av ok) (hv : v.cells = #[v]) (h : DataW.Trod enc P W 0 (fun _ => true) true t v d p) :
   ∃ y, ok y /\ R W.heap (DW W) zb0 (av y 0) v := by
 obtain ⟨fuel, h⟩ := h
 obtain ⟨y, y1, y2, y3⟩ := O.go _ _ _ h
 obtain ⟨u, u1, u2, u3⟩ := y3 0 (by omega)
 rw [hv] at u1
 simp at u1
 subst u1
 exact ⟨y, y1, u3⟩
theorem open_agg {t : TypeId} {α : Type} {sz : Nat} {av : α -> Nat -> AV} {ok : α -> Prop} {cs : Array Value} {d : DataW H} {p : List MemPlace} (O : zht enc P W t α sz av ok) (h : DataW.Trod enc P W 0 (fun _ => true) true t (.agg cs) d p) :
   ∃ y, ok y /\ R W.heap (DW W) zb0 (.agg ((List.range sz).map (av y))) (.agg cs) := by
 obtain ⟨fuel, h⟩ := h
 obtain ⟨y, y1, y2, y3⟩ := O.go _ _ _ h
 refine ⟨y, y1, .agg _ _ (by simpa [Value.cells] using y2.symm) (fun i v hv => ?_) (fun i x v hx hv => ?_)⟩
 · have hi : i < sz := by
     have := (Array.getElem?_eq_some_iff.1 hv).1
     simp [Value.cells] at y2; omega
   obtain ⟨u, u1, u2, u3⟩ := y3 i hi
   simp [Value.cells] at u1
   rw [u1] at hv; cases hv; exact u2
 · have hi : i < sz := by
     have := (List.getElem?_eq_some_iff.1 hx).1
     simpa using this
   obtain ⟨u, u1, u2, u3⟩ := y3 i hi
   simp [Value.cells] at u1
   rw [u1] at hv; cases hv
   simp [hi] at hx
   subst hx; exact u3
end
theorem zv1 {P : Program} {f : FuncId} {xs ys : List AV} {r : AV} (h : ∀ h D vs, RL h D zb0 xs vs -> RL h D zb0 ys vs) (ha : zae P f ys r) : zae P f xs r := fun D w vs hD hx => ha D w vs hD (h _ _ _ hx)
theorem ys4 {h : Array Obj} {D : Nat -> Prop} {sz n : Nat} {g g' : Nat -> Nat -> AV} {xs : List AV} {vs : Array Value} (e : ∀ i j, i < n -> j < sz -> g i j = g' i j) (r : RL h D zb0 (.lst sz n g :: xs) vs) : RL h D zb0 (.lst sz n g' :: xs) vs := by
 obtain ⟨h1, h2⟩ := r
 refine ⟨by simpa using h1, fun i x v hx hv => ?_⟩
 cases i with
 | zero => cases hx; exact zwn (h2 0 _ v rfl hv) e
 | succ i => exact h2 (i + 1) x v (by simpa using hx) hv
end Sy
end Go.Proofs.YtlphgephdhadhaaGreat
namespace Go.Proofs.YtlphgephdhadhaaGreat
namespace Sy
open Go Go.RowKit
set_option maxRecDepth 100000
set_option linter.unusedSimpArgs false
set_option linter.unusedVariables false
structure Vw (α : Type) where
 sz : Nat
 cell : zac -> α -> Nat -> AV
 rd : (Nat -> AV) -> α
 ok : (Nat -> AV) -> Prop
 d : α
structure yad {α : Type} (V : Vw α) : Prop where
 turn : ∀ c, V.ok c -> ∀ j, j < V.sz -> ∀ (h : Array Obj) (D : Nat -> Prop) (μ : Mu) (v : Value), R h D μ (c j) v -> R h D μ (V.cell std (V.rd c) j) v
 back : ∀ c x, (∀ j, j < V.sz -> c j = V.cell std x j) -> V.ok c /\ V.rd c = x
def ya7 {α : Type} (V : Vw α) (l : List α) (i : Nat) : α := l.getD i V.d
def zg4 {α : Type} (l : List α) : Nat := l.length
def getW {α : Type} (L : zac) (V : Vw α) (l : List α) : Nat -> Nat -> AV := fun i j => V.cell L (L (L (ya7 V) l) i) j
def zl9 {α : Type} (L : zac) (V : Vw α) (l : List α) : AV := .lst V.sz (L zg4 l) (getW L V l)
def rdW {α : Type} (V : Vw α) : AV -> List α
 | .lst _ n get => (List.range n).map fun i => V.rd (get i)
 | _ => []
def okW {α : Type} (V : Vw α) : AV -> Prop
 | .lst sz n get => sz = V.sz /\ ∀ i, i < n -> V.ok (get i)
 | .nils => True
 | _ => False
theorem zij {α : Type} {V : Vw α} {l : List α} {i : Nat} (h : i < l.length) : ya7 V l i = l[i] := by
 rw [ya7, List.getD_eq_getElem?_getD, List.getElem?_eq_getElem h]; rfl
theorem ztl {α : Type} (V : Vw α) (sz n : Nat) (get : Nat -> Nat -> AV) : (rdW V (.lst sz n get)).length = n := by simp [rdW]
theorem yl1 {α : Type} {V : Vw α} {sz n : Nat} {get : Nat -> Nat -> AV} {i : Nat} (h : i < n) : ya7 V (rdW V (.lst sz n get)) i = V.rd (get i) := by
 rw [zij (by rw [ztl]; exact h)]
 simp [rdW]
theorem ynm {α : Type} {V : Vw α} (K : yad V) {h : Array Obj} {D : Nat -> Prop} {μ : Mu} {x : AV} {v : Value} (ho : okW V x) (r : R h D μ x v) : R h D μ (zl9 std V (rdW V x)) v := by
 match x, ho with
 | .nils, _ => cases r; exact .lst0 _ _ none 0 (fun _ => rfl)
 | .lst sz n get, ho =>
   obtain ⟨rfl, ho⟩ := ho
   have e : zl9 std V (rdW V (.lst V.sz n get)) = .lst V.sz n (getW std V (rdW V (.lst V.sz n get))) := by
     show AV.lst V.sz (zg4 (rdW V (.lst V.sz n get))) _ = _
     rw [show zg4 (rdW V (.lst V.sz n get)) = n from ztl _ _ _ _]
   rw [e]
   cases r with
   | lst0 _ _ a cap hn => exact .lst0 _ _ a cap hn
   | lst _ _ _ b o cap vs hD hc hv h1 hr =>
     refine .lst _ _ _ b o cap vs hD hc hv h1 (fun i j hi hj => ?_)
     show R h D zb0 (V.cell std (ya7 V (rdW V (.lst V.sz n get)) i) j) (vs i j)
     rw [yl1 hi]
     exact K.turn _ (ho i hi) j hj _ _ _ _ (hr i j hi hj)
theorem zoz {α : Type} {V : Vw α} (K : yad V) {n : Nat} {get : Nat -> Nat -> AV} {l : List α} (hn : n = l.length) (h : ∀ i j, i < n -> j < V.sz -> get i j = V.cell std (ya7 V l i) j) : okW V (.lst V.sz n get) /\ rdW V (.lst V.sz n get) = l := by
 subst hn
 refine ⟨⟨rfl, fun i hi => (K.back _ _ (fun j hj => h i j hi hj)).1⟩, ?_⟩
 apply List.ext_getElem
 · rw [ztl]
 · intro i h1 h2
   have := yl1 (V := V) (sz := V.sz) (get := get) h2
   rw [zij h1] at this
   rw [this, (K.back _ _ (fun j hj => h i j h2 hj)).2, zij h2]
theorem yc8 {α : Type} {V : Vw α} (K : yad V) (l : List α) : okW V (zl9 std V l) /\ rdW V (zl9 std V l) = l := zoz K rfl (fun i j hi hj => rfl)
theorem zuz {α : Type} {V : Vw α} (K : yad V) {P : Program} {f : FuncId} {x r : AV} {xs : List AV} (ho : okW V x) (h : zae P f (zl9 std V (rdW V x) :: xs) r) : zae P f (x :: xs) r :=
 zv1 (fun hp D vs hr => by
   refine ⟨by rw [<- hr.1]; rfl, fun i z v hz hv => ?_⟩
   cases i with
   | zero => cases hz; exact ynm K ho (hr.2 0 x v rfl hv)
   | succ i => exact hr.2 (i + 1) z v hz hv) h
theorem yxl {α : Type} {V : Vw α} (K : yad V) {P : Program} {f : FuncId} {y x r : AV} {xs : List AV} (ho : okW V x) (h : zae P f (y :: zl9 std V (rdW V x) :: xs) r) : zae P f (y :: x :: xs) r :=
 zv1 (fun hp D vs hr => by
   refine ⟨by rw [<- hr.1]; rfl, fun i z v hz hv => ?_⟩
   match i, hz with
   | 0, hz => exact hr.2 0 z v hz hv
   | 1, hz => cases hz; exact ynm K ho (hr.2 1 x v rfl hv)
   | i + 2, hz => exact hr.2 (i + 2) z v hz hv) h
def isS (x : AV) : Prop := ∃ s, x = .str s
def isI (k : IntKind) (x : AV) : Prop := ∃ n, x = .int k n
theorem yoo {k : IntKind} {x : AV} (h : isI k x) {hp : Array Obj} {D : Nat -> Prop} {μ : Mu} {v : Value} (r : R hp D μ x v) : R hp D μ (.int k x.toI) v := by obtain ⟨s, rfl⟩ := h; exact r
def zjj {α : Type} (p : α -> Bool) : List α -> Int
 | [] => -1
 | x :: l => if p x = true then 0 else if zjj p l < 0 then -1 else zjj p l + 1
theorem zu6 {α : Type} (p : α -> Bool) : ∀ l : List α, -1 <= zjj p l /\ zjj p l < l.length
 | [] => by simp [zjj]
 | x :: l => by
   have ih := zu6 p l
   rw [List.length_cons]
   unfold zjj
   split
   · omega
   · split <;> omega
theorem zxf {α : Type} (p : α -> Bool) : ∀ l : List α, decide (0 <= zjj p l) = l.any p
 | [] => by simp [zjj]
 | x :: l => by
   have ih := zxf p l
   unfold zjj
   by_cases h : p x = true
   · simp [h]
   · have h' : p x = false := by simpa using h
     rw [if_neg h, List.any_cons, h', Bool.false_or, <- ih]
     split
     · rename_i h2; rw [decide_eq_false (by omega), decide_eq_false (by omega)]
     · rename_i h2; rw [decide_eq_true (by omega), decide_eq_true (by omega)]
theorem yed {α : Type} {p : α -> Bool} : ∀ {l : List α} {i : Nat} (hi : i < l.length), (∀ k (hk : k < i), p (l[k]'(by omega)) = false) -> p l[i] = true -> zjj p l = i
 | [], i, hi, _, _ => by simp at hi
 | x :: l, 0, hi, _, h => by simp at h; simp [zjj, h]
 | x :: l, i + 1, hi, h0, h => by
   have hx : p x = false := by simpa using h0 0 (by omega)
   have ih := yed (p := p) (l := l) (i := i) (by simpa using hi) (fun k hk => by have := h0 (k + 1) (by omega); simpa using this) (by simpa using h)
   rw [zjj, if_neg (by rw [hx]; decide), if_neg (by omega), ih]; simp
theorem yec {α : Type} {p : α -> Bool} : ∀ {l : List α}, (∀ x ∈ l, p x = false) -> zjj p l = -1
 | [], _ => rfl
 | x :: l, h => by
   have hx := h x (by simp)
   have ih := yec (p := p) (l := l) (fun y hy => h y (by simp [hy]))
   rw [zjj, if_neg (by rw [hx]; decide), if_pos (by omega)]
def zp9 {α : Type} (p : α -> Bool) (l : List α) (i : Nat) : Prop := i <= l.length /\ ∀ x ∈ l.take i, p x = false
theorem yd1 {α : Type} (p : α -> Bool) (l : List α) : zp9 p l 0 := ⟨Nat.zero_le _, fun x hx => by simp at hx⟩
theorem znq {α : Type} {V : Vw α} {p : α -> Bool} {l : List α} {i : Nat} (h : zp9 p l i) (hi : i < l.length) (hp : p (ya7 V l i) = false) : zp9 p l (i + 1) := by
 refine ⟨hi, fun x hx => ?_⟩
 rw [List.take_succ_eq_append_getElem hi, List.mem_append] at hx
 rcases hx with hx | hx
 · exact h.2 x hx
 · rw [List.mem_singleton.1 hx, <- zij (V := V) hi]; exact hp
theorem zri {α : Type} {V : Vw α} {p : α -> Bool} {l : List α} {i : Nat} (h : zp9 p l i) (hi : i < l.length) (hp : p (ya7 V l i) = true) : zjj p l = i := by
 rw [zij hi] at hp
 refine yed hi (fun k hk => h.2 _ ?_) hp
 rw [List.mem_take_iff_getElem]
 exact ⟨k, by omega, rfl⟩
theorem zrj {α : Type} {p : α -> Bool} {l : List α} {i : Nat} (h : zp9 p l i) (hi : ¬ i < l.length) : zjj p l = -1 := by
 have := h.2
 rw [List.take_of_length_le (by omega)] at this
 exact yec this
theorem ysu {P : Program} {f : FuncId} {sz n : Nat} {get : Nat -> Nat -> AV} {xs : List AV} {O : List (Nat × Ob)} {r : AV} {O1 : List (Nat × Ob)} (h1 : 0 < n -> zb3 P f (.lst sz n get :: xs) O r O1) (h2 : n = 0 -> zb3 P f (.nils :: xs) O r O1) (h3 : n = 0 -> zb3 P f (.emp :: xs) O r O1) : zb3 P f (.lst sz n get :: xs) O r O1 := by
 by_cases h0 : 0 < n
 · exact h1 h0
 obtain rfl : n = 0 := by omega
 intro D w μ vs hD hxs
 obtain ⟨v, hv⟩ : ∃ v, vs[0]? = some v := by
   have := hxs.1
   simp at this
   exact ⟨vs[0], by simp⟩
 have hr := hxs.2 0 _ v rfl hv
 have other : ∀ y, R w.heap D μ y v -> RL w.heap D μ (y :: xs) vs := fun y hy => ⟨hxs.1, fun i z u hz hu => by
   cases i with
   | zero => cases hz; rw [hv] at hu; cases hu; exact hy
   | succ i => exact hxs.2 (i + 1) z u hz hu⟩
 cases hr with
 | lst0 _ _ a cap hn =>
   cases a with
   | none =>
     have := hn rfl
     subst this
     exact h2 rfl D w μ vs hD (other _ .nils)
   | some a => exact h3 rfl D w μ vs hD (other _ (.emp a cap))
 | lst _ _ _ b o cap ws hD' hc hv' h1' hr' => exact h3 rfl D w μ vs hD (other _ (.emp _ cap))
def upN (n : Nat) : Prop := n <= 1000000
def yf9 (f ty sz : Nat) (L : zac) : zh5 := (f, fun raw ob => match raw with
 | [.lst s n get] => match zay s sz with
   | true => some ⟨[.lst sz n get], [], L upN n, .sl 900 sz 0 n, [(900, .row ty sz n get)]⟩
   | false => none
 | _ => none)
def ycp (f : Nat) : zh5 := (f, fun raw ob => match raw with
 | [.sl a sz off n, .slc b sz' off' n' cap] => match ob a, ob b with
   | some (.row ty _ k get), some (.row ty' _ k' get') => match zbr 1 sz, zay sz sz' with
     | true, true => some ⟨[.sl 500000 sz off n, .slc 500001 sz off' n' cap], [(500000, .row ty sz k get), (500001, .row ty' sz k' get')], True, .bool false, [(500000, .row ty sz k get), (500001, .row ty' sz k' get')]⟩
     | _, _ => none
   | _, _ => none
 | _ => none)
theorem ye7 (i j k n : Int) : (ylj i j k n = true) = (0 <= i /\ i <= j /\ j <= k /\ k <= n) := by simp [ylj, and_assoc]
theorem yti (a : Int) (n : Nat) : gei std (some a) n = a := rfl
theorem ytj (n : Nat) : gei std none n = (n : Int) := rfl
theorem yd5 (a b : Nat) : (zc1 a b = true) = (a <= b) := zdg
theorem yl9 (a b : Nat) : (zbr a b = true) = (a < b) := zck
theorem ylb (a b : Nat) : (zc1 a b = false) = (b < a) := by simp [zc1]
theorem yla (a b : Nat) : (zbr a b = false) = (b <= a) := by simp [zbr]
theorem yhq (m n : Nat) : (zqy m n = true) = (0 < n /\ m <= n) := by simp [zqy, zbr, zc1]
theorem ylu (a b : Nat) : Nat.add a b = a + b := rfl
theorem ykq (a b : Nat) : Nat.sub a b = a - b := rfl
theorem yb4 (c : Bool) (x y : AV) : zor c x y = if c = true then x else y := by cases c <;> rfl
theorem ymo (sz : Nat) (h : 1 < sz) (c : Bool) (x y : AV) : ygf std sz c x y = if c = true then x else y := by
 unfold ygf
 split
 · omega
 · cases c <;> rfl
theorem yb6 (off n e : Nat) : (ze4 off n e = true) = (off <= e /\ e < off + n) := by simp [ze4, zc1, zbr]
theorem yss (a b : Nat) : Nat.min a b = min a b := rfl
def yli (get gv : Nat -> Nat -> AV) (i : Nat) : Nat -> Nat -> AV := fun q j => if q < i then get q j else if q = i then gv 0 j else get (q - 1) j
def yji (n : Nat) (i : Int) : Prop := n <= 1000000 /\ 0 <= i /\ i <= n
def yws (f ty sz : Nat) (L : zac) : zh5 := (f, fun raw ob => match raw with
 | [.sl a s 0 n, .int .i64 i, .sl b s' 0 1] => match ob a, ob b, zay s sz, zay s' sz with
   | some (.row _ _ k get), some (.row _ _ _ gv), true, true => some ⟨[.sl 500000 sz 0 n, .int .i64 i, .sl 500001 sz 0 1], [(500000, .row ty sz n get), (500001, .row ty sz 1 gv)], L2 L yji n i, .sl 900 sz 0 (L2 L Nat.add n 1), [(900, .row ty sz (L2 L Nat.add n 1) (L3 L yli get gv (L Int.toNat i)))]⟩
   | _, _, _, _ => none
 | _ => none)
theorem zha {P : Program} {w : World} {tS tR e sz : Nat} (ht : P.underlying tS = some (.slice e)) (hz : ∀ w, (Go.sizeOf e).run P w = .ok sz w) {a b : Option Addr} {la ca lb cb : Nat} (h : la = 0 \/ lb = 0) :
   (Extern.SlicesOverlaps.overlaps #[tS, tS] #[tR] #[.slice a la ca, .slice b lb cb]).run P w = .ok (.bool false) w := by
 have h' : la = 0 \/ lb = 0 \/ sz = 0 := by rcases h with h | h; exact .inl h; exact .inr (.inl h)
 change Sem.run P (α := Value) (do
   let some t := (#[tS, tS] : Array TypeId)[0]? | stuck "slices.overlaps: no parameter types"
   let .slice elem <- underlying t | stuck "slices.overlaps: slice type expected"
   let size <- sizeOf elem
   match a, b with
   | some a, some b =>
     if la = 0 \/ lb = 0 \/ size = 0 then pure (Value.bool false)
     else if a.block != b.block && (<- frozen a) && (<- frozen b) then unsupported .addressObserved
     else do
       if a.block != b.block then do
         noView a; noView b
         if <- mayBeOne a b then return Value.bool ((<- choose (.extern "sameAddr.stringBytes" 2)) == 1)
       pure (Value.bool (a.block == b.block && a.off < b.off + lb * size && b.off < a.off + la * size))
   | _, _ => pure (Value.bool false)) w = _
 cases a <;> cases b <;> simp [run_underlying ht, hz, h']
theorem yi2 {P : Program} {f : FuncId} {fn : Func} {tS tR e esz : Nat} (hf : P.funcs[f]? = some fn) (hn : (fn.name == "runtime.NumGoroutine") = false) (hb : fn.body.isNone = true) (hnx : Extern.findNext fn = none) (hx : Extern.find fn = some (Extern.SlicesOverlaps.overlaps #[tS, tS] #[tR]))
   (ht : P.underlying tS = some (.slice e)) (hz : ∀ w, (Go.sizeOf e).run P w = .ok esz w) : zd7 P (ycp f) := by
 intro raw ob T hT hp
 unfold ycp at hT
 simp only at hT
 repeat' split at hT
 all_goals first | (cases hT; done) | skip
 rename_i a sz off n b sz' off' n' cap _ _ ty szr k get ty' szr' k' get' he1 he2 _ _ hs hsz
 obtain rfl := za5 hsz
 have hs := zd1 hs
 cases hT
 intro D w μ vs hD hxs hdom hobs hinj hown hg hgb
 obtain ⟨v, u, hv⟩ : ∃ v u, vs.toList = [v, u] := by
   have hl : vs.toList.length = 2 := by simpa using hxs.1.symm
   match vs.toList, hl with
   | [a, b], _ => exact ⟨a, b, rfl⟩
 have : vs = #[v, u] := by rw [<- Array.toArray_toList (xs := vs), hv]
 subst this
 have r1 : R w.heap D μ (.sl 500000 sz off n) v := hxs.2 0 _ v rfl rfl
 have r2 : R w.heap D μ (.slc 500001 sz off' n' cap) u := hxs.2 1 _ u rfl rfl
 have key : (Extern.SlicesOverlaps.overlaps #[tS, tS] #[tR] #[v, u]).run P w = .ok (.bool false) w := by
   have r3 := r2.less
   cases r1 with
   | slv _ _ ad hm => cases r3 <;> exact zha ht hz (.inl rfl)
   | sl0 _ _ _ b z m o hm ho => cases r3 <;> exact zha ht hz (.inl rfl)
   | sl _ _ _ _ b1 z1 m1 cap1 hm1 hn1 hz1 ho1 =>
     cases r3 with
     | slv _ _ ad hm => exact zha ht hz (.inr rfl)
     | sl0 _ _ _ b z m o hm ho => exact zha ht hz (.inr rfl)
     | sl _ _ _ _ b2 z2 m2 cap2 hm2 hn2 hz2 ho2 =>
       by_cases h0 : n = 0 \/ n' = 0
       · exact zha ht hz h0
       obtain ⟨_, C1, t1, fr1, hh1, hc1, hf1, hl1, hr1⟩ := hobs 500000 (.row ty sz k get) _ rfl hm1
       obtain ⟨_, C2, t2, fr2, hh2, hc2, hf2, hl2, hr2⟩ := hobs 500001 (.row ty' sz k' get') _ rfl hm2
       have hne : b1 ≠ b2 := by
         rintro rfl
         have := hinj 500000 500001 b1 _ _ hm1 hm2
         omega
       have hfr := hf1.2.2.2 hs
       have hin : off * sz < z1 := by
         have h1 : (off + 1) * sz <= (off + cap1) * sz := Nat.mul_le_mul_right _ (by omega)
         rw [Nat.add_mul] at h1
         omega
       have hpos : 0 < z2 := by
         have h1 : 1 * sz <= (off' + cap2) * sz := Nat.mul_le_mul_right _ (by omega)
         omega
       have fz : ∀ o, o <= z1 -> w.frozen? { block := b1, off := o, spot := none } = false := by
         intro o ho
         have := hfr o (by omega)
         simp only [World.frozen?, hh1]
         simp only [Bool.and_eq_false_iff, decide_eq_false_iff_not]
         omega
       exact Lib.run_overlaps_apart w tS tR e ht esz hz ⟨b1, off * sz, none⟩ ⟨b2, off' * sz, none⟩ n cap1 n' cap2 hne t1 t2 C1.size C2.size (by simp [World.shape?, hh1]) (by simp [World.shape?, hh2]) (by omega) (fz _ (by omega)) (fz _ (by omega))
 unfold zfe
 rw [show (ycp f).fst = f from rfl, run_callFunc_extern hf hn hb hnx hx, key]
 exact ⟨_, D, μ, { ret := rfl, os := rfl, tape := rfl, output := rfl, size := Nat.le_refl _, old := fun _ _ _ => rfl, up := fun _ h => h, dn := fun _ h => .inl h, dom := hdom, obs := hobs, inj := hinj, own := fun n b z h => ⟨(hown n b z h).1, (hown n b z h).2, .inr ⟨n, z, h⟩⟩, keep := fun _ _ _ => rfl, val := .bool _ }⟩
def zt5 (get : Nat -> Nat -> AV) (i : Nat) : Nat -> Nat -> AV := fun q j => if q < i then get q j else get (q + 1) j
def yk3 (n : Nat) (i j : Int) : Prop := n <= 1000000 /\ 0 <= i /\ i < n /\ j = i + 1
def zh8 (n : Nat) : Nat := n - 1
def yx0 (f ty sz : Nat) (L : zac) : zh5 := (f, fun raw ob => match raw with
 | [.sl a s 0 n, .int .i64 i, .int .i64 j] => match ob a, zay s sz with
   | some (.row _ _ k get), true => some ⟨[.sl 500000 sz 0 n, .int .i64 i, .int .i64 j], [(500000, .row ty sz n get)], L3 L yk3 n i j, .sl 900 sz 0 (L zh8 n), [(900, .row ty sz (L zh8 n) (L2 L zt5 get (L Int.toNat i)))]⟩
   | _, _ => none
 | _ => none)
def zc8 (n : Int) : Prop := 0 <= n /\ n < 18446744073709551616
def zav (n : Int) : List UInt8 := zdq n.toNat
def zjx (L : zac) : zcr := (70, fun xs => match xs with | [.int .u64 n] => some (L zc8 n, .str (L zav n)) | _ => none)
theorem zhx : zcu Tryz.prog (zjx std) := by
 intro xs p r h hp
 dsimp only [zjx] at h |-
 split at h <;> cases h
 try simp only [L2, L3, std] at hp |-
 rename_i n
 obtain ⟨h0, h1⟩ : zc8 n := hp
 obtain ⟨k, rfl⟩ := yd6 h0
 exact zfd (fn := Tryz.f70) rfl rfl (by kernel_rfl) (yqc (ziy _ _)) (fun h D => yav h D _ _) (fun w => yb2 k w (by omega))
theorem ya0 : zae Tryz.prog 71 [] (.bool true) := by
 refine zad (T := tt) (S := fun L => zbe [zjx L, zyv L]) (lo := noA) (lb := noA) 5 (fn := Tryz.f71) rfl rfl (by kernel_rfl) (by kernel_rfl) rfl zah (zab ⟨zhx, zl1, trivial⟩) (by kernel_rfl) ?_
 (intro L P1 Q1 hL hP hQ; cbv; subst hL; simp only [L2, L3, std, syT]; subst hQ)
 (simp only [syS, reduceCtorEq, Int.reduceToNat, Int.reduceAdd, Int.reduceSub])
 exact ⟨by unfold zc8; omega, fun _ => ⟨by unfold yhy; omega, by decide +kernel⟩, by rw [zav, show (300 : Int).toNat = 300 from rfl, ze2 (by decide), zbm (by decide)]; rfl⟩
def tru (f : Nat) : zcr := (f, fun xs => match xs with | [] => some (True, .bool true) | _ => none)
theorem zcx {P : Program} {f : Nat} (h : zae P f [] (.bool true)) : zcu P (tru f) := by
 intro xs p r h' hp
 match xs with
 | [] => cases h'; exact h
 | x :: xs => cases h'
theorem zkg : zae Tryz.prog 56 [] (.bool true) := by
 refine zad (T := tt) (S := fun L => zbe [tru 71]) (lo := noA) (lb := noA) 5 (fn := Tryz.f56) rfl rfl (by kernel_rfl) (by kernel_rfl) rfl zah (zab ⟨zcx ya0, trivial⟩) (by kernel_rfl) ?_
 (intro L P1 Q1 hL hP hQ; cbv; subst hL; simp only [L2, L3, std, syT]; subst hQ)
 (simp only [syS, reduceCtorEq, Int.reduceToNat, Int.reduceAdd, Int.reduceSub])
def zm5 : zh5 := (91, fun raw ob => match raw with
 | [.ref id 0] => match ob id with
   | some (.box ty cs) => some ⟨[.ref 500000 0], [(500000, .box ty cs)], True, .ref 500000 0, [(500000, .box ty cs)]⟩
   | _ => none
 | _ => none)
theorem znr : zd7 Tryz.prog zm5 := by
 intro raw ob T hT hp
 unfold zm5 at hT
 simp only at hT
 split at hT
 · split at hT
   · cases hT
     intro D w μ vs hD hxs hdom hobs hinj hown hg hgb
     obtain ⟨v, hv⟩ : ∃ v, vs.toList = [v] := List.length_eq_one_iff.1 (by simpa using hxs.1.symm)
     have : vs = #[v] := by rw [<- Array.toArray_toList (xs := vs), hv]
     subst this
     unfold zfe
     rw [show zm5.fst = 91 from rfl, run_callFunc_extern (fn := Tryz.f91) rfl (by kernel_rfl) (by kernel_rfl) (by kernel_rfl) (e := Extern.AbiNoEscape.same) (by kernel_rfl)]
     rw [Lib.run_noEscape]
     exact ⟨v, D, μ, { ret := rfl, os := rfl, tape := rfl, output := rfl, size := Nat.le_refl _, old := fun _ _ _ => rfl, up := fun _ h => h, dn := fun _ h => .inl h, dom := hdom, obs := hobs, inj := hinj, own := fun n b z h => ⟨(hown n b z h).1, (hown n b z h).2, .inr ⟨n, z, h⟩⟩, keep := fun _ _ _ => rfl, val := hxs.2 0 _ _ rfl rfl }⟩
   · cases hT
 · cases hT
def yps : zh5 := (78, fun raw ob => match raw with
 | [.ref id 0] => match ob id with
   | some (.box _ [.nilp, .nils]) => some ⟨[.ref 500000 0], [(500000, .box 97 [.nilp, .nils])], True, .tup [], [(500000, .box 97 [.ref 500000 0, .nils])]⟩
   | some (.box _ [.ref _ 0, .sl k 1 0 n]) => match ob k with
     | some (.row _ 1 m get) => some ⟨[.ref 500000 0], [(500000, .box 97 [.ref 500000 0, .sl 500001 1 0 m]), (500001, .row 5 1 m get)], True, .tup [], [(500000, .box 97 [.ref 500000 0, .sl 500001 1 0 m]), (500001, .row 5 1 m get)]⟩
     | _ => none
   | _ => none
 | _ => none)
theorem yu6 : zb3 Tryz.prog 78 [.ref 500000 0] [(500000, .box 97 [.nilp, .nils])] (.tup []) [(500000, .box 97 [.ref 500000 0, .nils])] := by
 refine zau (T := tt) (S := fun L => zbg [] [zm5]) (lo := noA) (lb := noA) 5 (fn := Tryz.f78) (xs := fun L => [.ref 500000 0]) (rts := fun _ => []) (O := fun L => [(500000, .box 97 [.nilp, .nils])]) (O1 := fun L => [(500000, .box 97 [.ref 500000 0, .nils])])
   rfl rfl (by kernel_rfl) (by kernel_rfl) (by kernel_rfl) zah (zaj trivial ⟨znr, trivial⟩) (by kernel_rfl) ?_
 intro L P' Q' hL hP hQ
 (cbv; try simp only [syT, true_and, and_true])
 exact ⟨fun _ => trivial, fun h => by cases h⟩
theorem yu5 (m : Nat) (get : Nat -> Nat -> AV) : zb3 Tryz.prog 78 [.ref 500000 0] [(500000, .box 97 [.ref 500000 0, .sl 500001 1 0 m]), (500001, .row 5 1 m get)] (.tup []) [(500000, .box 97 [.ref 500000 0, .sl 500001 1 0 m]), (500001, .row 5 1 m get)] := by
 refine zau (T := tt) (S := fun L => zbg [] [zm5]) (lo := noA) (lb := noA) 5 (fn := Tryz.f78) (xs := fun L => [.ref 500000 0]) (rts := fun _ => []) (O := fun L => [(500000, .box 97 [.ref 500000 0, .sl 500001 1 0 m]), (500001, .row 5 1 m get)]) (O1 := fun L => [(500000, .box 97 [.ref 500000 0, .sl 500001 1 0 m]), (500001, .row 5 1 m get)])
   rfl rfl (by kernel_rfl) (by kernel_rfl) (by kernel_rfl) zah (zaj trivial ⟨znr, trivial⟩) (by kernel_rfl) ?_
 intro L P' Q' hL hP hQ
 (cbv; try simp only [syT, true_and, and_true])
 subst hL
 simp [std]
theorem zmz : zd7 Tryz.prog yps := by
 intro raw ob T hT hp
 unfold yps at hT
 simp only at hT
 repeat' split at hT
 all_goals first | (cases hT; done) | (cases hT; exact yu6) | (cases hT; exact yu5 _ _)
def bld (L : zac) (l : List UInt8) : List (Nat × Ob) := [(500000, .box 97 [.ref 500000 0, .sl 500001 1 0 (L lenN l)]), (500001, .row 5 1 (L lenN l) (fun i _ => .int .u8 (L2 L zap l i)))]
def zux (L : zac) (l : List UInt8) : List (Nat × Ob) := [(500000, .box 97 [.ref 500000 0, .sl 7 1 0 (L lenN l)]), (7, .row 5 1 (L lenN l) (fun i _ => .int .u8 (L2 L zap l i)))]
def yqz : List (Nat × Ob) := [(500000, .box 97 [.nilp, .nils])]
def yg1 (L : zac) (ob : Nat -> Option Ob) (id : Nat) : Option (Option (List UInt8)) := match ob id with
 | some (.box _ [.nilp, .nils]) => some none
 | some (.box _ [.ref _ 0, .sl k 1 0 n]) => match ob k with
   | some (.row _ 1 m get) => some (some (L2 L bytesOf m (fun i => (get i 0).toI)))
   | _ => none
 | _ => none
def zaf (l m : List UInt8) : List UInt8 := l ++ m
def zd2 (c : Int) : List UInt8 := [UInt8.ofNat c.toNat]
def yrd (c : Int) : Prop := 0 <= c /\ c < 256
def zgj (l m : List UInt8) : Prop := l.length + m.length <= 90000000
def yut (L : zac) : zh5 := (68, fun raw ob => match raw with
 | [.ref id 0, .int .u8 c] => match yg1 L ob id with
   | some none => some ⟨[.ref 500000 0, .int .u8 c], yqz, L yrd c, .dead, zux L (L zd2 c)⟩
   | some (some l) => some ⟨[.ref 500000 0, .int .u8 c], bld L l, L yrd c /\ L2 L zgj l (L zd2 c), .dead, zux L (L2 L zaf l (L zd2 c))⟩
   | none => none
 | _ => none)
def yuq (L : zac) : zh5 := (69, fun raw ob => match raw with
 | [.ref id 0, .str s] => match yg1 L ob id with
   | some (some l) => some ⟨[.ref 500000 0, .str s], bld L l, L2 L zgj l s, .tup [.int .i64 (L slen s), .dead], zux L (L2 L zaf l s)⟩
   | _ => none
 | _ => none)
def yxg (L : zac) : zh5 := (54, fun raw ob => match raw with
 | [.ref id 0] => match yg1 L ob id with
   | some (some l) => some ⟨[.ref 500000 0], bld L l, L (fun l => l ≠ [] /\ l.length <= 90000000) l, .str l, []⟩
   | _ => none
 | _ => none)
def yxh (L : zac) : zh5 := (53, fun raw ob => match raw with
 | [.ref id 0] => match yg1 L ob id with
   | some (some l) => some ⟨[.ref 500000 0], bld L l, True, .int .i64 (L slen l), bld L l⟩
   | _ => none
 | _ => none)
theorem zqd {l m : List UInt8} {i : Nat} (h : i < l.length) : zap (l ++ m) i = zap l i := by
 simp [zap, List.getElem?_append_left h]
theorem zqc {l m : List UInt8} {i : Nat} (h : ¬ i < l.length) : zap (l ++ m) i = zap m (i - l.length) := by
 simp [zap, List.getElem?_append_right (show l.length <= i by omega)]
theorem zga (l : List UInt8) : bytesOf l.length (fun i => zap l i) = l := by
 apply List.ext_getElem
 · simp [bytesOf]
 · intro i h1 h2
   simp [bytesOf, zap, h2]
theorem zxs {c : Int} (hc : yrd c) (i : Nat) (h : i < 1) : za9 [c] i = zap (zd2 c) i := by
 have : i = 0 := by omega
 subst this
 obtain ⟨h0, h1⟩ := hc
 simp [za9, zap, zd2, UInt8.toNat_ofNat']
 omega
theorem yrb (c : Int) (hc : yrd c) : zb3 Tryz.prog 68 [.ref 500000 0, .int .u8 c] yqz .dead (zux std (zd2 c)) := by
 refine zau (T := tt) (S := fun L => zbg [] [yps]) (lo := noA) (lb := noA) 5 (fn := Tryz.f68) (xs := fun L => [.ref 500000 0, .int .u8 c]) (rts := fun _ => [.dead]) (O := fun L => yqz) (O1 := fun L => zux L (L zd2 c))
   rfl rfl (by kernel_rfl) (by kernel_rfl) (by kernel_rfl) zah (zaj trivial ⟨zmz, trivial⟩) (by kernel_rfl) ?_
 intro L P' Q' hL hP hQ
 (cbv; try simp only [syT, true_and, and_true])
 subst hL
 simp only [L2, L3, std, zd8]
 have h1 : lenN (zd2 c) = 1 := rfl
 rw [h1]
 exact ⟨by omega, ⟨rfl, fun i j hi hj => by rw [show Nat.add 0 i = i from Nat.zero_add i, zxs hc i hi]⟩, rfl⟩
theorem yra (l : List UInt8) (c : Int) (hc : yrd c) (hl : zgj l (zd2 c)) : zb3 Tryz.prog 68 [.ref 500000 0, .int .u8 c] (bld std l) .dead (zux std (zaf l (zd2 c))) := by
 refine zau (T := tt) (S := fun L => zbg [] [yps]) (lo := noA) (lb := noA) 5 (fn := Tryz.f68) (xs := fun L => [.ref 500000 0, .int .u8 c]) (rts := fun _ => [.dead]) (O := fun L => bld L l) (O1 := fun L => zux L (L2 L zaf l (L zd2 c)))
   rfl rfl (by kernel_rfl) (by kernel_rfl) (by kernel_rfl) zah (zaj trivial ⟨zmz, trivial⟩) (by kernel_rfl) ?_
 intro L P' Q' hL hP hQ
 (cbv; try simp only [syT, true_and, and_true])
 subst hL
 simp only [L2, L3, std, zd8]
 have h1 : lenN (zaf l (zd2 c)) = l.length + 1 := by simp [lenN, zaf, zd2]
 have h2 : (zd2 c).length = 1 := rfl
 have hl : l.length + (zd2 c).length <= 90000000 := hl
 have h3 : lenN l = l.length := rfl
 rw [h1, h3]
 refine ⟨fun _ _ _ _ => trivial, by omega, ⟨rfl, fun i j hi hj => ?_⟩, rfl⟩
 by_cases h : i < l.length
 · rw [zn0 h, show zaf l (zd2 c) = l ++ zd2 c from rfl, zqd h]; rfl
 · rw [zqf h, show zaf l (zd2 c) = l ++ zd2 c from rfl, zqc h]
   show AV.int .u8 (za9 [c] (Nat.add 0 (i - l.length))) = _
   rw [show Nat.add 0 (i - l.length) = i - l.length from Nat.zero_add _, zxs hc _ (by omega)]
theorem yr4 (l s : List UInt8) (hl : zgj l s) : zb3 Tryz.prog 69 [.ref 500000 0, .str s] (bld std l) (.tup [.int .i64 (slen s), .dead]) (zux std (zaf l s)) := by
 refine zau (T := tt) (S := fun L => zbg [] [yps]) (lo := noA) (lb := noA) 5 (fn := Tryz.f69) (xs := fun L => [.ref 500000 0, .str s]) (rts := fun L => [.int .i64 (L slen s), .dead]) (O := fun L => bld L l) (O1 := fun L => zux L (L2 L zaf l s))
   rfl rfl (by kernel_rfl) (by kernel_rfl) (by kernel_rfl) zah (zaj trivial ⟨zmz, trivial⟩) (by kernel_rfl) ?_
 intro L P' Q' hL hP hQ
 (cbv; try simp only [syT, true_and, and_true])
 subst hL
 simp only [L2, L3, std, zd8]
 have h1 : lenN (zaf l s) = l.length + s.length := by simp [lenN, zaf]
 have hl : l.length + s.length <= 90000000 := hl
 have h3 : lenN l = l.length := rfl
 rw [h1, h3]
 refine ⟨fun _ _ _ _ => trivial, by omega, ⟨rfl, fun i j hi hj => ?_⟩, rfl⟩
 by_cases h : i < l.length
 · rw [zn0 h, show zaf l s = l ++ s from rfl, zqd h]; rfl
 · rw [zqf h, show zaf l s = l ++ s from rfl, zqc h]; rfl
theorem yua (l : List UInt8) (h0 : l ≠ []) (hl : l.length <= 90000000) : zb3 Tryz.prog 54 [.ref 500000 0] (bld std l) (.str l) [] := by
 refine zau (T := tt) (S := fun L => zbg [] [yps]) (lo := noA) (lb := noA) 5 (fn := Tryz.f54) (xs := fun L => [.ref 500000 0]) (rts := fun L => [.str l]) (O := fun L => bld L l) (O1 := fun L => [])
   rfl rfl (by kernel_rfl) (by kernel_rfl) (by kernel_rfl) zah (zaj trivial ⟨zmz, trivial⟩) (by kernel_rfl) ?_
 intro L P' Q' hL hP hQ
 (cbv; try simp only [syT, true_and, and_true])
 subst hL
 simp only [L2, L3, std]
 have h3 : lenN l = l.length := rfl
 have h1 : 0 < l.length := List.length_pos_iff.2 h0
 refine ⟨zn0 h1, ⟨by show (0 : Int) < (l.length : Int); omega, by show (l.length : Int) <= (l.length : Int); omega, by show (l.length : Int) <= _; omega, fun i hi => ⟨_, rfl, ?_, ?_⟩⟩, zga l⟩
 · simp [zap]
 · have := UInt8.toNat_lt (l.getD i 0)
   show ((l.getD i 0).toNat : Int) < 256
   omega
theorem yuc (l : List UInt8) : zb3 Tryz.prog 53 [.ref 500000 0] (bld std l) (.int .i64 (slen l)) (bld std l) := by
 refine zau (T := tt) (S := fun L => zbg [] [yps]) (lo := noA) (lb := noA) 5 (fn := Tryz.f53) (xs := fun L => [.ref 500000 0]) (rts := fun L => [.int .i64 (L slen l)]) (O := fun L => bld L l) (O1 := fun L => bld L l)
   rfl rfl (by kernel_rfl) (by kernel_rfl) (by kernel_rfl) zah (zaj trivial ⟨zmz, trivial⟩) (by kernel_rfl) ?_
 intro L P' Q' hL hP hQ
 (cbv; try simp only [syT, true_and, and_true])
 subst hL
 exact ⟨fun _ _ _ _ => trivial, rfl⟩
theorem yak : zd7 Tryz.prog (yut std) := by
 intro raw ob T hT hp
 unfold yut at hT
 simp only at hT
 repeat' split at hT
 all_goals first | (cases hT; done) | (cases hT; exact yrb _ hp) | (cases hT; exact yra _ _ hp.1 hp.2)
theorem yae : zd7 Tryz.prog (yuq std) := by
 intro raw ob T hT hp
 unfold yuq at hT
 simp only at hT
 repeat' split at hT
 all_goals first | (cases hT; done) | (cases hT; exact yr4 _ _ hp)
theorem yq6 : zd7 Tryz.prog (yxg std) := by
 intro raw ob T hT hp
 unfold yxg at hT
 simp only at hT
 repeat' split at hT
 all_goals first | (cases hT; done) | (cases hT; exact yua _ hp.1 hp.2)
theorem yq8 : zd7 Tryz.prog (yxh std) := by
 intro raw ob T hT hp
 unfold yxh at hT
 simp only at hT
 repeat' split at hT
 all_goals first | (cases hT; done) | (cases hT; exact yuc _)
inductive CV where
 | mk (k n : Int) (s : List UInt8) (l : List CV)
namespace CV
def kd : CV -> Int
 | mk k _ _ _ => k
def nn : CV -> Int
 | mk _ n _ _ => n
def tx : CV -> List UInt8
 | mk _ _ s _ => s
def ls : CV -> List CV
 | mk _ _ _ l => l
theorem eta (v : CV) : mk v.kd v.nn v.tx v.ls = v := by cases v; rfl
end CV
def zax (l : List CV) (i : Nat) : CV := l.getD i (.mk 0 0 [] [])
def lenL (l : List CV) : Nat := l.length
def zhg (v : CV) : Nat := v.ls.length
def sizeC : CV -> Nat
 | .mk _ _ _ l => sizeCs l + 1
where sizeCs : List CV -> Nat
 | [] => 0
 | v :: l => sizeC v + sizeCs l
abbrev sizeCs := sizeC.sizeCs
theorem ze1 : sizeCs [] = 0 := by simp [sizeC.sizeCs]
theorem zc3 (v : CV) (l : List CV) : sizeCs (v :: l) = sizeC v + sizeCs l := by simp [sizeC.sizeCs]
theorem zea (k n : Int) (s : List UInt8) (l : List CV) : sizeC (.mk k n s l) = sizeCs l + 1 := by rw [sizeC]
theorem zf0 (v : CV) : 0 < sizeC v := by cases v; rw [zea]; omega
theorem zlt : ∀ (l : List CV) (i : Nat), i < l.length -> sizeC (zax l i) <= sizeCs l
 | [], i, h => by simp at h
 | v :: l, 0, h => by rw [zc3]; show sizeC v <= _; omega
 | v :: l, i + 1, h => by
   have := zlt l i (by simpa using h)
   rw [zc3]
   show sizeC (zax l i) <= _
   omega
theorem zw8 {l : List CV} {i : Nat} (h : i < l.length) : zax l i ∈ l := by
 rw [zax, List.getD_eq_getElem?_getD, List.getElem?_eq_getElem h]; exact List.getElem_mem h
theorem ylq {p : CV -> Prop} (h : ∀ k n s l, (∀ v ∈ l, p v) -> p (.mk k n s l)) : ∀ (m : Nat) (v : CV), sizeC v <= m -> p v
 | 0, v, hv => by have := zf0 v; omega
 | m + 1, .mk k n s l, hv => h k n s l fun w hw => by
   rw [zea] at hv
   obtain ⟨i, hi, rfl⟩ := List.getElem_of_mem hw
   have := zlt l i hi
   have e : zax l i = l[i] := by rw [zax, List.getD_eq_getElem?_getD, List.getElem?_eq_getElem hi]; rfl
   rw [e] at this
   exact ylq h m _ (by omega)
theorem yf5 {p : CV -> Prop} (h : ∀ k n s l, (∀ v ∈ l, p v) -> p (.mk k n s l)) (v : CV) : p v := ylq h _ v (Nat.le_refl _)
def dflC : Nat -> AV
 | 0 => .int .i64 0
 | 1 => .int .u64 0
 | 2 => .str []
 | _ => .lst 4 0 (fun _ _ => .dead)
mutual
def zfa : CV -> Nat -> AV
 | .mk k n s l, j => match j with
   | 0 => .int .i64 k
   | 1 => .int .u64 n
   | 2 => .str s
   | _ => .lst 4 l.length (zfk l)
def zfk : List CV -> Nat -> Nat -> AV
 | [], _, j => dflC j
 | v :: l, i, j => match i with
   | 0 => zfa v j
   | i + 1 => zfk l i j
end
theorem zgx (v : CV) : zfa v 0 = .int .i64 v.kd := by cases v; rw [zfa]; rfl
theorem zgw (v : CV) : zfa v 1 = .int .u64 v.nn := by cases v; rw [zfa]; rfl
theorem zgv (v : CV) : zfa v 2 = .str v.tx := by cases v; rw [zfa]; rfl
theorem zgu (v : CV) : zfa v 3 = .lst 4 v.ls.length (zfk v.ls) := by cases v; rw [zfa] <;> first | rfl | (intro h; cases h)
theorem zbj : ∀ (l : List CV) (i j : Nat), i < l.length -> zfk l i j = zfa (zax l i) j
 | [], i, j, h => by simp at h
 | v :: l, 0, j, h => by rw [zfk]; rfl
 | v :: l, i + 1, j, h => by rw [zfk]; exact zbj l i j (by simpa using h)
def zhp (v : CV) : Nat -> Nat -> AV := zfk v.ls
def cv1 (L : zac) (v : CV) : Nat -> AV
 | 0 => .int .i64 (L CV.kd v)
 | 1 => .int .u64 (L CV.nn v)
 | 2 => .str (L CV.tx v)
 | _ => .lst 4 (L zhg v) (L zhp v)
theorem zir (v : CV) (j : Nat) (h : j < 4) : cv1 std v j = zfa v j := by
 match j, h with
 | 0, _ => rw [zgx]; rfl
 | 1, _ => rw [zgw]; rfl
 | 2, _ => rw [zgv]; rfl
 | 3, _ => rw [zgu]; rfl
def cvL (L : zac) (l : List CV) : AV := .lst 4 (L lenL l) (fun i j => cv1 L (L2 L zax l i) j)
def cvA (L : zac) (v : CV) : AV := .agg [.int .i64 (L CV.kd v), .int .u64 (L CV.nn v), .str (L CV.tx v), .lst 4 (L zhg v) (L zhp v)]
def rdL : AV -> List CV
 | .lst _ n get => (List.range n).map fun i => .mk (get i 0).toI (get i 1).toI (match get i 2 with | .str s => s | _ => []) (rdL (get i 3))
 | _ => []
def okL : AV -> Prop
 | .lst sz n get => sz = 4 /\ ∀ i, i < n -> (∃ x, get i 0 = .int .i64 x) /\ (∃ x, get i 1 = .int .u64 x) /\ (∃ x, get i 2 = .str x) /\ okL (get i 3)
 | .nils => True
 | _ => False
theorem zj1 (sz n : Nat) (get : Nat -> Nat -> AV) : (rdL (.lst sz n get)).length = n := by simp [rdL]
theorem zr2 {sz n : Nat} {get : Nat -> Nat -> AV} {i : Nat} (h : i < n) : zax (rdL (.lst sz n get)) i = .mk (get i 0).toI (get i 1).toI (match get i 2 with | .str s => s | _ => []) (rdL (get i 3)) := by
 rw [zax, List.getD_eq_getElem?_getD, rdL]
 simp [h]
theorem yf4 {a b : List CV} (h : a.length = b.length) (k : ∀ i, i < a.length -> zax a i = zax b i) : a = b := by
 apply List.ext_getElem h
 intro i h1 h2
 have := k i h1
 rw [zax, zax, List.getD_eq_getElem?_getD, List.getD_eq_getElem?_getD, List.getElem?_eq_getElem h1, List.getElem?_eq_getElem h2] at this
 exact this
theorem yn7 : ∀ v : CV, rdL (zfa v 3) = v.ls /\ okL (zfa v 3) := by
 refine yf5 fun k n s l ih => ?_
 rw [zgu]
 show rdL (.lst 4 l.length (zfk l)) = l /\ okL (.lst 4 l.length (zfk l))
 refine ⟨yf4 (zj1 _ _ _) fun i hi => ?_, rfl, fun i hi => ?_⟩
 · rw [zj1] at hi
   rw [zr2 hi, zbj _ _ _ hi, zbj _ _ _ hi, zbj _ _ _ hi, zbj _ _ _ hi, zgx, zgw, zgv, (ih _ (zw8 hi)).1]
   exact CV.eta _
 · rw [zbj _ _ _ hi, zbj _ _ _ hi, zbj _ _ _ hi, zbj _ _ _ hi, zgx, zgw, zgv]
   exact ⟨⟨_, rfl⟩, ⟨_, rfl⟩, ⟨_, rfl⟩, (ih _ (zw8 hi)).2⟩
theorem zk0 (v : CV) : rdL (.lst 4 (zhg v) (zhp v)) = v.ls /\ okL (.lst 4 (zhg v) (zhp v)) := by
 have := yn7 v
 rw [zgu] at this
 exact this
theorem yc7 (l : List CV) : rdL (cvL std l) = l /\ okL (cvL std l) := by
 refine ⟨yf4 (zj1 _ _ _) fun i hi => ?_, rfl, fun i hi => ⟨⟨_, rfl⟩, ⟨_, rfl⟩, ⟨_, rfl⟩, (zk0 _).2⟩⟩
 have hi : i < l.length := by rw [show (rdL (cvL std l)).length = lenL l from zj1 _ _ _] at hi; exact hi
 show zax (rdL (.lst 4 (lenL l) _)) i = _
 rw [zr2 (show i < lenL l from hi)]
 show CV.mk (zax l i).kd (zax l i).nn (zax l i).tx (rdL (.lst 4 (zhg (zax l i)) (zhp (zax l i)))) = _
 rw [(zk0 _).1, CV.eta]
theorem ysn {h : Array Obj} {D : Nat -> Prop} : ∀ (x : AV) {μ : Mu} {v : Value}, okL x -> R h D μ x v -> R h D μ (.lst 4 (rdL x).length (zfk (rdL x))) v := by
 intro x μ v ho r
 induction r with
 | nils => exact .lst0 _ _ _ _ (fun _ => rfl)
 | lst0 sz get a cap hn => exact .lst0 _ _ _ _ hn
 | lst sz n get b o cap vs hD hc hv h1 hr ih =>
   obtain ⟨rfl, ho⟩ := ho
   rw [zj1]
   refine .lst _ _ _ b o cap vs hD hc hv h1 (fun i j hi hj => ?_)
   rw [zbj _ _ _ (by rw [zj1]; exact hi), zr2 hi]
   obtain ⟨⟨x0, e0⟩, ⟨x1, e1⟩, ⟨x2, e2⟩, o3⟩ := ho i hi
   have hj' := hr i j hi hj
   match j, hj with
   | 0, _ => rw [zgx]; rw [e0] at hj' |-; exact hj'
   | 1, _ => rw [zgw]; rw [e1] at hj' |-; exact hj'
   | 2, _ => rw [zgv]; rw [e2] at hj' |-; exact hj'
   | 3, _ => rw [zgu]; exact ih i 3 hi (by omega) o3
 | _ => exact ho.elim
theorem ytz {h : Array Obj} {D : Nat -> Prop} {μ : Mu} {l : List CV} {v : Value} (r : R h D μ (.lst 4 l.length (zfk l)) v) : R h D μ (cvL std l) v :=
 zwn r fun i j hi hj => by
   rw [zbj _ _ _ hi]
   exact (zir _ j hj).symm
mutual
def zdt : CV -> Int
 | .mk k _ _ l => if k = 3 then zb6 l + 1 else 0
def zb6 : List CV -> Int
 | [] => 0
 | v :: l => max (zdt v) (zb6 l)
end
theorem zo9 : ∀ a b : List CV, zb6 (a ++ b) = max (zb6 a) (zb6 b)
 | [], b => by
   rw [List.nil_append, zb6]
   have : ∀ b : List CV, 0 <= zb6 b := by
     intro b
     induction b with
     | nil => rw [zb6]; omega
     | cons v l ih => rw [zb6]; omega
   have := this b
   omega
 | v :: a, b => by rw [List.cons_append, zb6, zo9 a b, zb6]; omega
theorem zvb {l : List CV} {i : Nat} (h : i < l.length) : l.take (i + 1) = l.take i ++ [zax l i] := by
 rw [List.take_succ_eq_append_getElem h, zax, List.getD_eq_getElem?_getD, List.getElem?_eq_getElem h]; rfl
def zie (l : List CV) (i : Nat) : Int := zb6 (l.take i)
theorem zul {l : List CV} {i : Nat} (h : i < l.length) : zie l (i + 1) = max (zie l i) (zdt (zax l i)) := by
 unfold zie
 rw [zvb h, zo9, zb6, zb6]
 have : 0 <= zdt (zax l i) \/ True := .inr trivial
 have h0 : ∀ b : List CV, 0 <= zb6 b := by
   intro b
   induction b with
   | nil => rw [zb6]; omega
   | cons v l ih => rw [zb6]; omega
 have := h0 (l.take i)
 omega
mutual
def zfb : CV -> Bool
 | .mk k n s l => if k = 1 then decide (s = []) && l.isEmpty else if k = 2 then decide (n = 0) && l.isEmpty else if k = 3 then decide (n = 0) && decide (s = []) && zdu l else false
def zdu : List CV -> Bool
 | [] => true
 | v :: l => zfb v && zdu l
end
def zeu (k : Int) : List UInt8 := [UInt8.ofNat (k % 256).toNat]
mutual
def zbb : CV -> List UInt8
 | .mk k n s l => zeu k ++ if k = 1 then zav n else if k = 2 then zav s.length ++ s else zav l.length ++ zao l
def zao : List CV -> List UInt8
 | [] => []
 | v :: l => zbb v ++ zao l
end
theorem zhw : ∀ a b : List CV, zao (a ++ b) = zao a ++ zao b
 | [], b => by rw [zao]; rfl
 | v :: a, b => by rw [List.cons_append, zao, zhw a b, zao, List.append_assoc]
def zfx (l : List CV) (i : Nat) : List UInt8 := zao (l.take i)
theorem zdd {l : List CV} {i : Nat} (h : i < l.length) : zfx l (i + 1) = zfx l i ++ zbb (zax l i) := by
 unfold zfx
 rw [zvb h, zhw, zao, zao, List.append_nil]
def mkV (L : zac) (k n : Int) (s : List UInt8) (x : AV) : CV := L (L (L (L CV.mk k) n) s) (L rdL x)
def zn7 (N : Nat) (v : CV) : Prop := sizeC v <= N /\ N <= 1000000
def zt9 (N : Nat) (l : List CV) : Prop := sizeCs l <= N /\ N <= 1000000
theorem zmb : ∀ l : List CV, l.length <= sizeCs l
 | [] => by simp
 | v :: l => by
   have := zmb l
   have := zf0 v
   rw [zc3, List.length_cons]; omega
theorem zrh {N : Nat} {l : List CV} {i : Nat} (h : zt9 N l) (hi : i < l.length) : zn7 N (zax l i) := by
 have := zlt l i hi
 exact ⟨by have := h.1; omega, h.2⟩
theorem zcj {N : Nat} {k n : Int} {s : List UInt8} {l : List CV} : zn7 (N + 1) (.mk k n s l) = (zt9 N l /\ N + 1 <= 1000000) := by
 unfold zn7 zt9
 rw [zea]
 exact propext ⟨fun h => ⟨⟨by omega, by omega⟩, by omega⟩, fun h => ⟨by have := h.1.1; omega, h.2⟩⟩
theorem zer (v : CV) : CV.mk v.kd v.nn v.tx (rdL (.lst 4 (zhg v) (zhp v))) = v := by rw [(zk0 v).1]; exact CV.eta v
theorem zbs (v : CV) : mkV std v.kd v.nn v.tx (.lst 4 (zhg v) (zhp v)) = v := zer v
theorem rdl (l : List CV) : rdL (.lst 4 (lenL l) fun i => cv1 std (zax l i)) = l := (yc7 l).1
theorem okl (l : List CV) : okL (.lst 4 (lenL l) fun i => cv1 std (zax l i)) := (yc7 l).2
theorem mkl (k n : Int) (s : List UInt8) (l : List CV) : mkV std k n s (.lst 4 (lenL l) fun i => cv1 std (zax l i)) = .mk k n s l := by
 show CV.mk k n s (rdL _) = _
 rw [rdl]
theorem ym4 {h : Array Obj} {D : Nat -> Prop} {μ : Mu} {a b c x : AV} {v : Value} (ho : okL x) (r : R h D μ (.agg [a, b, c, x]) v) : R h D μ (.agg [a, b, c, cvL std (rdL x)]) v := by
 obtain ⟨us, rfl, o1, s1, hr⟩ := r.inv_agg
 refine .agg _ _ (by rw [<- s1]; rfl) o1 fun i y v hy hv => ?_
 match i, hy with
 | 0, hy => cases hy; exact hr 0 _ v rfl hv
 | 1, hy => cases hy; exact hr 1 _ v rfl hv
 | 2, hy => cases hy; exact hr 2 _ v rfl hv
 | 3, hy => cases hy; exact ytz (ysn x ho (hr 3 _ v rfl hv))
 | i + 4, hy => simp at hy
theorem yvu {h : Array Obj} {D : Nat -> Prop} {μ : Mu} {x y : AV} {r : List AV} {vs : Array Value} (e : ∀ v, R h D μ x v -> R h D μ y v) (hr : RL h D μ (x :: r) vs) : RL h D μ (y :: r) vs := by
 refine ⟨by rw [<- hr.1]; rfl, fun i z v hz hv => ?_⟩
 cases i with
 | zero => cases hz; exact e v (hr.2 0 x v rfl hv)
 | succ i => exact hr.2 (i + 1) z v hz hv
theorem rl_2 {h : Array Obj} {D : Nat -> Prop} {μ : Mu} {a x y : AV} {r : List AV} {vs : Array Value} (e : ∀ v, R h D μ x v -> R h D μ y v) (hr : RL h D μ (a :: x :: r) vs) : RL h D μ (a :: y :: r) vs := by
 refine ⟨by rw [<- hr.1]; rfl, fun i z v hz hv => ?_⟩
 match i, hz with
 | 0, hz => exact hr.2 0 z v hz hv
 | 1, hz => cases hz; exact e v (hr.2 1 x v rfl hv)
 | i + 2, hz => exact hr.2 (i + 2) z v hz hv
theorem zjw {P : Program} {f : FuncId} {xs ys : List AV} {r : AV} (h : ∀ h D vs, RL h D zb0 xs vs -> RL h D zb0 ys vs) (ha : zae P f ys r) : zae P f xs r := fun D w vs hD hx => ha D w vs hD (h _ _ _ hx)
theorem yr0 {P : Program} {f : FuncId} {a b c x r : AV} (ho : okL x) (h : zae P f [.agg [a, b, c, cvL std (rdL x)]] r) : zae P f [.agg [a, b, c, x]] r :=
 zjw (fun h D vs hr => yvu (fun v => ym4 ho) hr) h
theorem yt3 {h : Array Obj} {D : Nat -> Prop} {μ : Mu} {x : AV} {v : Value} (ho : okL x) (r : R h D μ x v) : R h D μ (cvL std (rdL x)) v := ytz (ysn x ho r)
theorem yv7 {P : Program} {f : FuncId} {x r : AV} {q : List AV} (ho : okL x) (h : zae P f (cvL std (rdL x) :: q) r) : zae P f (x :: q) r :=
 zjw (fun h D vs hr => yvu (fun v => yt3 ho) hr) h
def yx1 (L : zac) (l : List CV) : Nat -> St -> Option Ann := fun id s => match id with
 | 0 => some ⟨Nat, fun i => [(12, .int .i64 (L za6 i)), (3, .int .i64 (L2 L zie l i))], fun i => [], [10, 11], [],
     fun i => L2 L (fun (l : List CV) i => i <= l.length) l i, fun i => L2 L (fun (l : List CV) (i : Nat) => l.length - i) l i⟩
 | _ => none
def zso (N : Nat) (L : zac) : zcr := (51, fun xs => match xs with
 | [.agg [.int .i64 k, .int .u64 n, .str s, x]] => some (L okL x /\ L2 L zn7 N (mkV L k n s x), .int .i64 (L zdt (mkV L k n s x)))
 | _ => none)
theorem ypl : ∀ v, 0 <= zdt v /\ zdt v <= (sizeC v : Int) := by
 refine yf5 fun k n s l ih => ?_
 have : ∀ m : List CV, (∀ v ∈ m, 0 <= zdt v /\ zdt v <= (sizeC v : Int)) -> 0 <= zb6 m /\ zb6 m <= (sizeCs m : Int) := by
   intro m
   induction m with
   | nil => intro _; rw [zb6, ze1]; omega
   | cons v m ih =>
     intro h
     have h1 := h v (by simp)
     have h2 := ih fun w hw => h w (by simp [hw])
     rw [zb6, zc3]; omega
 have := this l ih
 rw [zdt, zea]
 split <;> omega
theorem yf3 (l : List CV) (i : Nat) : 0 <= zie l i /\ zie l i <= (sizeCs l : Int) := by
 have h1 : ∀ m : List CV, 0 <= zb6 m /\ zb6 m <= (sizeCs m : Int) := by
   intro m
   induction m with
   | nil => rw [zb6, ze1]; omega
   | cons v m ih => have := ypl v; rw [zb6, zc3]; omega
 have h2 := h1 (l.take i)
 have h3 : ∀ (m : List CV) (i : Nat), sizeCs (m.take i) <= sizeCs m := by
   intro m
   induction m with
   | nil => intro i; simp
   | cons v m ih =>
     intro i
     cases i with
     | zero => rw [List.take_zero, ze1]; omega
     | succ i => have := ih i; rw [List.take_succ_cons, zc3, zc3]; omega
 have := h3 l i
 exact ⟨h2.1, by unfold zie; omega⟩
theorem yf2 : ∀ N, zcu Tryz.prog (zso N std) := by
 intro N
 induction N with
 | zero =>
   intro xs p r h hp
   unfold zso at h
   simp only at h
   split at h
   · rename_i k n s x
     cases h
     have h1 : sizeC (mkV std k n s x) <= 0 := hp.2.1
     have := zf0 (mkV std k n s x)
     omega
   · cases h
 | succ N ih =>
   intro xs p r h hp
   unfold zso at h
   simp only at h
   split at h
   · rename_i k n s x
     cases h
     obtain ⟨ho, hz⟩ := hp
     refine yr0 ho ?_
     show zae _ _ _ (.int .i64 (zdt (.mk k n s (rdL x))))
     have hz : zn7 (N + 1) (.mk k n s (rdL x)) := hz
     generalize rdL x = l at hz |-
     refine zal (T := tt) (S := fun L => zbe [zso N L]) (lo := fun L => yx1 L l) (lb := noA) 5 (fn := Tryz.f51) (xs := fun L => [.agg [.int .i64 k, .int .u64 n, .str s, cvL L l]]) rfl rfl (by kernel_rfl) (by kernel_rfl) rfl zah
       (zab ⟨ih, trivial⟩) (by kernel_rfl) ?_
     intro L P' Q' hL hP hQ
     (cbv; try simp only [syT, true_and, and_true])
     refine ⟨fun h => ?_, fun h => ⟨⟨0, ?_⟩, fun i hi => ?_⟩⟩
     · (subst hL; subst hQ; simp only [L2, L3, std] at *; try simp only [syS, reduceCtorEq, Int.reduceToNat, Int.reduceAdd, Int.reduceSub] at *)
       rw [zdt, if_neg h]
     · (cbv; try simp only [syT, true_and, and_true])
       (subst hL; subst hQ; simp only [L2, L3, std] at *; try simp only [syS, reduceCtorEq, Int.reduceToNat, Int.reduceAdd, Int.reduceSub] at *)
       exact ⟨by rw [zie, List.take_zero, zb6], Nat.zero_le _⟩
     · cbv at hi
       (cbv; try simp only [syT, true_and, and_true])
       refine ⟨fun hlt => ⟨?_, ⟨?_, ?_⟩, ⟨i + 1, ?_⟩⟩, fun hge => ?_⟩
       · (subst hL; subst hQ; simp only [L2, L3, std] at *; try simp only [syS, reduceCtorEq, Int.reduceToNat, Int.reduceAdd, Int.reduceSub] at *)
         omega
       · (subst hL; subst hQ; simp only [L2, L3, std] at *; try simp only [syS, reduceCtorEq, Int.reduceToNat, Int.reduceAdd, Int.reduceSub] at *)
         exact (zk0 _).2
       · (subst hL; subst hQ; simp only [L2, L3, std] at *; try simp only [syS, reduceCtorEq, Int.reduceToNat, Int.reduceAdd, Int.reduceSub] at *)
         rw [zer]
         rw [zcj] at hz
         exact zrh hz.1 (by have : lenL l = l.length := rfl; omega)
       · (cbv; try simp only [syT, true_and, and_true])
         (subst hL; subst hQ; simp only [L2, L3, std] at *; try simp only [syS, reduceCtorEq, Int.reduceToNat, Int.reduceAdd, Int.reduceSub] at *)
         have : lenL l = l.length := rfl
         have := zmb l
         have h1 := hz.1
         have h2 := hz.2
         rw [zea] at h1
         rw [zbs]
         exact ⟨by rw [zul (by omega)], by omega, by omega, by omega⟩
       · (subst hL; subst hQ; simp only [L2, L3, std] at *; try simp only [syS, reduceCtorEq, Int.reduceToNat, Int.reduceAdd, Int.reduceSub] at *)
         have : lenL l = l.length := rfl
         have hil : i = l.length := by omega
         have h3 := yf3 l i
         have h1 := hz.1
         have h2 := hz.2
         rw [zea] at h1
         rw [zdt, if_pos h, hil, zie, List.take_length]
         rw [hil, zie, List.take_length] at h3
         omega
   · cases h
def okG {α : Type} (V : Vw α) : AV -> Prop
 | .agg cs => cs.length = V.sz /\ V.ok (fun j => zc4 .dead cs j)
 | _ => False
def rdG {α : Type} (V : Vw α) : AV -> α
 | .agg cs => V.rd (fun j => zc4 .dead cs j)
 | _ => V.d
theorem ydl (cs : List AV) (j : Nat) : zc4 .dead cs j = (cs[j]?).getD .dead := by
 induction cs generalizing j with
 | nil => cases j <;> rfl
 | cons x l ih => cases j with
   | zero => rfl
   | succ j => exact ih j
theorem gK {α : Type} {V : Vw α} (K : yad V) (x : α) (cs : List AV) (h : cs = (List.range V.sz).map (V.cell std x)) : okG V (.agg cs) /\ rdG V (.agg cs) = x := by
 have h1 : ∀ j, j < V.sz -> zc4 .dead cs j = V.cell std x j := fun j hj => by rw [ydl, h]; simp [hj]
 have h2 := K.back _ x h1
 exact ⟨⟨by simp [h], h2.1⟩, h2.2⟩
theorem G_R {α : Type} {V : Vw α} (K : yad V) {x : AV} (ho : okG V x) {h : Array Obj} {D : Nat -> Prop} {μ : Mu} {v : Value} (r : R h D μ x v) : R h D μ (.agg ((List.range V.sz).map (V.cell std (rdG V x)))) v := by
 match x, ho with
 | .agg cs, ho =>
   obtain ⟨us, rfl, o1, s1, hr⟩ := r.inv_agg
   refine .agg _ _ (by rw [<- s1]; simp [ho.1]) o1 fun i y w hy hw => ?_
   have hi : i < V.sz := by
     have := (List.getElem?_eq_some_iff.1 hy).1
     simpa using this
   simp [hi] at hy
   subst hy
   have hc : cs[i]? = some (zc4 .dead cs i) := by
     rw [ydl, List.getElem?_eq_getElem (by rw [ho.1]; exact hi)]; rfl
   exact K.turn _ ho.2 i hi _ _ _ _ (hr i _ w hc hw)
theorem yxm {α : Type} {V : Vw α} (K : yad V) {P : Program} {f : FuncId} {x r : AV} {q : List AV} (ho : okG V x) (h : zae P f (.agg ((List.range V.sz).map (V.cell std (rdG V x))) :: q) r) : zae P f (x :: q) r :=
 zjw (fun h D vs hr => yvu (fun v => G_R K ho) hr) h
def zgm (n : Nat) (g : Nat -> Nat -> AV) : List Int := (List.range n).map fun i => (g i 0).toI
def byG (n : Nat) (g : Nat -> Nat -> AV) : Prop := ∀ i, i < n -> ∃ x, g i 0 = .int .u8 x
def bcI (l m : List Int) : Int := Lib.compareBytes (prB l) (prB m)
theorem yfx {P : Program} {w : World} {D : Nat -> Prop} {μ : Mu} {n : Nat} {g : Nat -> Nat -> AV} {v : Value} (hg : byG n g) (r : R w.heap D μ (.lst 1 n g) v) : (Extern.Bytes.bytesOf v).run P w = .ok ⟨(prB (zgm n g)).toArray⟩ w := by
 cases r with
 | lst0 _ _ a cap hn =>
   cases a with
   | none => simp [Extern.Bytes.bytesOf, zgm, prB]; rfl
   | some a => simp [Extern.Bytes.bytesOf, Extern.Bytes.loadBytes, zgm, prB]; rfl
 | lst _ _ _ b o cap vs hD hc hv h1 hr =>
   have hl := Lib.run_loadBytesX (P := P) w (zgm n g) ⟨b, o, none⟩ .empty (fun j x hj => by
     have hjl : j < n := by
       have := (List.getElem?_eq_some_iff.1 hj).1
       simpa [zgm] using this
     have e : (⟨b, o, none⟩ : Addr).add j = ⟨b, o + j, none⟩ := by unfold Addr.add; split <;> simp_all
     have h2 := hv j 0 hjl (by omega)
     have h3 := hr j 0 hjl (by omega)
     obtain ⟨y, hy⟩ := hg j hjl
     rw [hy] at h3
     generalize vs j 0 = z at h2 h3
     have hx : x = y := by
       have : (zgm n g)[j]? = some y := by simp [zgm, hjl, hy, AV.toI]
       rw [this] at hj
       cases hj; rfl
     rw [e, zh2]
     show hcell w.heap b (o + j) = _
     rw [show o + j = o + j * 1 + 0 by omega, h2]
     cases h3
     rw [hx])
   rw [show (zgm n g).length = n by simp [zgm]] at hl
   show (Extern.Bytes.loadBytes ⟨b, o, none⟩ n .empty).run P w = _
   rw [hl]
   congr 1
   apply ByteArray.ext
   show (#[] : Array UInt8) ++ (Lib.bytesOf (zgm n g)).toArray = (prB (zgm n g)).toArray
   simp [Lib.bytesOf, prB]
def ykb (L : zac) : zcr := (62, fun xs => match xs with
 | [.lst 1 n g, .lst 1 m k] => some (L2 L byG n g /\ L2 L byG m k, .int .i64 (L2 L bcI (L2 L zgm n g) (L2 L zgm m k)))
 | _ => none)
theorem ykc : zcu Tryz.prog (ykb std) := by
 intro xs p r h hp
 dsimp only [ykb] at h
 split at h
 rotate_left
 · cases h
 rename_i n g m k
 cases h
 obtain ⟨hg, hk⟩ := hp
 have h1 : Tryz.prog.funcs[62]? = some Tryz.f62 := rfl
 have h2 : (Tryz.f62.name == "runtime.NumGoroutine") = false := by kernel_rfl
 have h3 : Tryz.f62.body.isNone = true := by kernel_rfl
 have h4 : Extern.findNext Tryz.f62 = none := by kernel_rfl
 have h5 : Extern.find Tryz.f62 = some Extern.BytealgCompare.compare := by kernel_rfl
 intro D w vs hD hxs hgo
 obtain ⟨v, u, hv⟩ : ∃ v u, vs.toList = [v, u] := by
   have hl : vs.toList.length = 2 := by simpa using hxs.1.symm
   match vs.toList, hl with
   | [a, b], _ => exact ⟨a, b, rfl⟩
 have : vs = #[v, u] := by rw [<- Array.toArray_toList (xs := vs), hv]
 subst this
 have r1 : R w.heap D zb0 (.lst 1 n g) v := hxs.2 0 _ v rfl rfl
 have r2 : R w.heap D zb0 (.lst 1 m k) u := hxs.2 1 _ u rfl rfl
 have key : (Extern.BytealgCompare.compare #[v, u]).run Tryz.prog w = .ok (.int .i64 (bcI (zgm n g) (zgm m k))) w := by
   change Sem.run Tryz.prog (do pure (goInt (Extern.BytealgCompare.cmp (<- Extern.Bytes.bytesOf v) (<- Extern.Bytes.bytesOf u)))) w = _
   simp only [Sem.run_bind, yfx hg r1, yfx hk r2, Sem.run_pure, Result.andThen]
   rw [Lib.cmp_eq]; rfl
 unfold zfe
 rw [show (ykb std).fst = 62 from rfl, run_callFunc_extern h1 h2 h3 h4 h5, key]
 exact ⟨_, D, rfl, Below.refl _ _, fun _ h => h, fun b hb => .inl hb, .int _ _⟩
def yxi (L : zac) : zcr := (45, fun xs => match xs with
 | [.lst 1 n g, .lst 1 m k] => some (L2 L byG n g /\ L2 L byG m k, .int .i64 (L2 L bcI (L2 L zgm n g) (L2 L zgm m k)))
 | _ => none)
theorem yqa : zcu Tryz.prog (yxi std) := by
 intro xs p r h hp
 dsimp only [yxi] at h
 split at h
 rotate_left
 · cases h
 rename_i n g m k
 cases h
 refine zad (T := tt) (S := fun L => zbe [ykb L]) (lo := noA) (lb := noA) 5 (fn := Tryz.f45) rfl rfl (by kernel_rfl) (by kernel_rfl) rfl zah (zab ⟨ykc, trivial⟩) (by kernel_rfl) ?_
 (intro L P1 Q1 hL hP hQ; cbv; subst hL; simp only [L2, L3, std, syT]; subst hQ)
 (simp only [syS, reduceCtorEq, Int.reduceToNat, Int.reduceAdd, Int.reduceSub])
 exact ⟨hp, rfl⟩
def za0 (p : Pr) (j : Nat) : Int := za9 p.1 j
def prZ : Pr := ⟨[0, 0, 0, 0, 0, 0, 0, 0, 0, 0, 0, 0, 0, 0, 0, 0], rfl⟩
def prC (L : zac) (p : Pr) (j : Nat) : AV := .int .u8 (L2 L za0 p j)
def yhv (c : Nat -> AV) : Pr := ⟨(List.range 16).map fun j => (c j).toI, by simp⟩
def prV : Vw Pr := ⟨16, prC, yhv, fun c => ∀ j, j < 16 -> isI .u8 (c j), prZ⟩
def leC (L : zac) (x : Le) (j : Nat) : AV := match zbr j 16 with
 | true => .int .u8 (L2 L za0 (L Le.p x) j)
 | false => match zay j 16 with
   | true => .int .i64 (L Le.d x)
   | false => .bool (L Le.h x)
def toB (x : AV) : Bool := match x with | .bool b => b | _ => false
def isB (x : AV) : Prop := ∃ b, x = .bool b
def leV : Vw Le := ⟨18, leC, fun c => ⟨yhv c, (c 16).toI, toB (c 17)⟩, fun c => (∀ j, j < 16 -> isI .u8 (c j)) /\ isI .i64 (c 16) /\ isB (c 17), ⟨prZ, 0, false⟩⟩
theorem ztm {c : Nat -> AV} {j : Nat} (hj : j < 16) : za0 (yhv c) j = (c j).toI := by
 unfold za0 yhv za9
 simp [List.getD_eq_getElem?_getD, hj]
theorem zr3 {c : Nat -> AV} {x : Pr} (h : ∀ j, j < 16 -> c j = .int .u8 (za0 x j)) : yhv c = x := by
 apply Subtype.ext
 apply List.ext_getElem
 · rw [(yhv c).2, x.2]
 · intro i h1 h2
   have hi : i < 16 := by rw [x.2] at h2; exact h2
   have e := ztm (c := c) hi
   rw [h i hi] at e
   unfold za0 za9 at e
   simp only [List.getD_eq_getElem?_getD, List.getElem?_eq_getElem h1, List.getElem?_eq_getElem h2, Option.getD_some, AV.toI] at e
   exact e
theorem zh0 : yad prV := by
 refine ⟨fun c hc j hj h D μ v r => ?_, fun c x hx => ⟨fun j hj => ⟨_, hx j hj⟩, zr3 hx⟩⟩
 show R h D μ (.int .u8 (za0 (yhv c) j)) v
 rw [ztm hj]
 exact yoo (hc j hj) r
theorem ydq (x : Le) {j : Nat} (h : j < 16) : leC std x j = .int .u8 (za0 x.p j) := by
 unfold leC
 rw [zn0 h]; rfl
theorem zch : yad leV := by
 refine ⟨fun c hc j hj h D μ v r => ?_, fun c x hx => ?_⟩
 · obtain ⟨h0, h1, h2⟩ := hc
   by_cases hlt : j < 16
   · show R h D μ (leC std _ j) v
     rw [ydq _ hlt]
     show R h D μ (.int .u8 (za0 (yhv c) j)) v
     rw [ztm hlt]
     exact yoo (h0 j hlt) r
   · have hj : j < 18 := hj
     have : j = 16 \/ j = 17 := by omega
     rcases this with rfl | rfl
     · exact yoo h1 r
     · obtain ⟨b, hb⟩ := h2
       rw [hb] at r
       show R h D μ (.bool (toB (c 17))) v
       rw [hb]; exact r
 · have hp : ∀ j, j < 16 -> c j = .int .u8 (za0 x.p j) := fun j hj => by rw [hx j (by show j < 18; omega)]; exact ydq x hj
   have e16 := hx 16 (by decide)
   have e17 := hx 17 (by decide)
   refine ⟨⟨fun j hj => ⟨_, hp j hj⟩, ⟨_, e16⟩, ⟨_, e17⟩⟩, ?_⟩
   show Le.mk (yhv c) (c 16).toI (toB (c 17)) = x
   rw [zr3 hp, e16, e17]; rfl
def za4 (l : List Le) (i : Nat) : Le := ya7 leV l i
def zbf (L : zac) (l : List Le) : AV := .lst 18 (L zg4 l) (fun i => leC L (L (L za4 l) i))
def zf4 (x : AV) : Prop := okW leV x
def zaa (x : AV) : List Le := rdW leV x
def zre (x : AV) : Prop := okG leV x
def zek (x : AV) : Le := rdG leV x
def zhb (x : AV) : Prop := okG prV x
def zas (x : AV) : Pr := rdG prV x
theorem yvx (l : List Le) : zaa (.lst 18 (zg4 l) fun i => leC std (za4 l i)) = l := (yc8 zch l).2
theorem yw8 (l : List Le) : zf4 (.lst 18 (zg4 l) fun i => leC std (za4 l i)) := (yc8 zch l).1
theorem zb5 {l : List Le} {i : Nat} (h : i < l.length) : za4 l i = l[i] := zij (V := leV) h
def zi8 (L : zac) (p : Pr) : AV := .agg [.int .u8 (L2 L za0 p 0), .int .u8 (L2 L za0 p 1), .int .u8 (L2 L za0 p 2), .int .u8 (L2 L za0 p 3), .int .u8 (L2 L za0 p 4), .int .u8 (L2 L za0 p 5), .int .u8 (L2 L za0 p 6), .int .u8 (L2 L za0 p 7), .int .u8 (L2 L za0 p 8), .int .u8 (L2 L za0 p 9), .int .u8 (L2 L za0 p 10), .int .u8 (L2 L za0 p 11), .int .u8 (L2 L za0 p 12), .int .u8 (L2 L za0 p 13), .int .u8 (L2 L za0 p 14), .int .u8 (L2 L za0 p 15)]
def leA (L : zac) (x : Le) : AV := .agg [.int .u8 (L2 L za0 (L Le.p x) 0), .int .u8 (L2 L za0 (L Le.p x) 1), .int .u8 (L2 L za0 (L Le.p x) 2), .int .u8 (L2 L za0 (L Le.p x) 3), .int .u8 (L2 L za0 (L Le.p x) 4), .int .u8 (L2 L za0 (L Le.p x) 5), .int .u8 (L2 L za0 (L Le.p x) 6), .int .u8 (L2 L za0 (L Le.p x) 7), .int .u8 (L2 L za0 (L Le.p x) 8), .int .u8 (L2 L za0 (L Le.p x) 9), .int .u8 (L2 L za0 (L Le.p x) 10), .int .u8 (L2 L za0 (L Le.p x) 11), .int .u8 (L2 L za0 (L Le.p x) 12), .int .u8 (L2 L za0 (L Le.p x) 13), .int .u8 (L2 L za0 (L Le.p x) 14), .int .u8 (L2 L za0 (L Le.p x) 15), .int .i64 (L Le.d x), .bool (L Le.h x)]
theorem zp2 (p : Pr) : [za0 p 0, za0 p 1, za0 p 2, za0 p 3, za0 p 4, za0 p 5, za0 p 6, za0 p 7, za0 p 8, za0 p 9, za0 p 10, za0 p 11, za0 p 12, za0 p 13, za0 p 14, za0 p 15] = p.1 := by
 obtain ⟨l, hl⟩ := p
 match l, hl with
 | [a0, a1, a2, a3, a4, a5, a6, a7, a8, a9, a10, a11, a12, a13, a14, a15], _ => rfl
theorem zf2 (p : Pr) : AV.agg ((List.range prV.sz).map (prV.cell std p)) = zi8 std p := rfl
theorem zwx (x : Le) : AV.agg ((List.range leV.sz).map (leV.cell std x)) = leA std x := rfl
theorem yc6 (p : Pr) : zhb (zi8 std p) /\ zas (zi8 std p) = p := gK zh0 p _ rfl
theorem yhu (x : Le) : zre (leA std x) /\ zek (leA std x) = x := gK zch x _ rfl
theorem yvs {h : Array Obj} {D : Nat -> Prop} {x y y' : AV} {xs : List AV} {vs : Array Value} (k : ∀ v, R h D zb0 y v -> R h D zb0 y' v) (hr : RL h D zb0 (x :: y :: xs) vs) : RL h D zb0 (x :: y' :: xs) vs := by
 refine ⟨hr.1, fun i z v hz hv => ?_⟩
 match i, hz with
 | 0, hz => exact hr.2 0 z v hz hv
 | 1, hz => cases hz; exact k v (hr.2 1 y v rfl hv)
 | i + 2, hz => exact hr.2 (i + 2) z v hz hv
theorem zkx {α : Type} {V : Vw α} (K : yad V) {P : Program} {f : FuncId} {y x r : AV} {q : List AV} (ho : okG V x) (h : zae P f (y :: .agg ((List.range V.sz).map (V.cell std (rdG V x))) :: q) r) : zae P f (y :: x :: q) r :=
 zjw (fun h D vs hr => yvs (fun v => G_R K ho) hr) h
def zr6 (p q : Pr) : Int := if prN p < prN q then -1 else if prN q < prN p then 1 else 0
def yu3 (p q : Pr) : Prop := zfh p /\ zfh q
def yo8 (L : zac) : zcr := (44, fun xs => match xs with
 | [x, q] => some (L zre x /\ L zhb q /\ L2 L yu3 (L Le.p (L zek x)) (L zas q), .int .i64 (L2 L zr6 (L Le.p (L zek x)) (L zas q)))
 | _ => none)
theorem yj5 : zcu Tryz.prog (yo8 std) := by
 intro xs p r h hp
 dsimp only [yo8] at h |-
 split at h <;> cases h
 try simp only [L2, L3, std] at hp |-
 rename_i x q
 obtain ⟨o1, o2, o3⟩ := hp
 refine yxm zch o1 (zkx zh0 o2 ?_)
 rw [zf2, zwx]
 have o3 : yu3 (zek x).p (zas q) := o3
 show zae _ _ [leA std (zek x), zi8 std (zas q)] (.int .i64 (zr6 (zek x).p (zas q)))
 generalize zek x = e at o3 |-
 generalize zas q = p at o3 |-
 refine zal (T := tt) (S := fun L => zbe [yxi L]) (lo := noA) (lb := noA) 5 (fn := Tryz.f44) (xs := fun L => [leA L e, zi8 L p]) rfl rfl (by kernel_rfl) (by kernel_rfl) rfl zah (zab ⟨yqa, trivial⟩) (by kernel_rfl) ?_
 intro L P' Q' hL hP hQ
 have hc := yf7 (p := e.p.1) (q := p.1) (by rw [e.p.2, p.2]) o3.1 o3.2
 (cbv; try simp only [syT, true_and, and_true])
 (subst hL; subst hQ; simp only [L2, L3, std] at *; try simp only [syS, reduceCtorEq, Int.reduceToNat, Int.reduceAdd, Int.reduceSub] at *)
 refine ⟨⟨fun i _ => ⟨_, rfl⟩, fun i _ => ⟨_, rfl⟩⟩, ?_⟩
 rw [show (zgm 16 fun i x => AV.int IntKind.u8 (za9 [za0 e.p 0, za0 e.p 1, za0 e.p 2, za0 e.p 3, za0 e.p 4, za0 e.p 5, za0 e.p 6, za0 e.p 7, za0 e.p 8, za0 e.p 9, za0 e.p 10, za0 e.p 11, za0 e.p 12, za0 e.p 13, za0 e.p 14, za0 e.p 15] i)) = e.p.1 from zp2 e.p,
   show (zgm 16 fun i x => AV.int IntKind.u8 (za9 [za0 p 0, za0 p 1, za0 p 2, za0 p 3, za0 p 4, za0 p 5, za0 p 6, za0 p 7, za0 p 8, za0 p 9, za0 p 10, za0 p 11, za0 p 12, za0 p 13, za0 p 14, za0 p 15] i)) = p.1 from zp2 p]
 exact hc
def ynf (y z : Pr) : Bool := decide (y = z)
theorem zto (y z : Pr) : (and (ieq (za0 y 0) (za0 z 0)) (and (ieq (za0 y 1) (za0 z 1)) (and (ieq (za0 y 2) (za0 z 2)) (and (ieq (za0 y 3) (za0 z 3)) (and (ieq (za0 y 4) (za0 z 4)) (and (ieq (za0 y 5) (za0 z 5)) (and (ieq (za0 y 6) (za0 z 6)) (and (ieq (za0 y 7) (za0 z 7)) (and (ieq (za0 y 8) (za0 z 8)) (and (ieq (za0 y 9) (za0 z 9)) (and (ieq (za0 y 10) (za0 z 10)) (and (ieq (za0 y 11) (za0 z 11)) (and (ieq (za0 y 12) (za0 z 12)) (and (ieq (za0 y 13) (za0 z 13)) (and (ieq (za0 y 14) (za0 z 14)) (and (ieq (za0 y 15) (za0 z 15)) (true))))))))))))))))) = decide (y = z) := by
 have key : ((List.range 16).all fun j => ieq (za0 y j) (za0 z j)) = decide (y = z) := by
   by_cases h : y = z
   · rw [decide_eq_true h, List.all_eq_true]
     intro j _
     rw [yeb, h]
   · rw [decide_eq_false h, List.all_eq_false]
     refine Classical.byContradiction fun hc => h ?_
     apply Subtype.ext
     apply List.ext_getElem
     · rw [y.2, z.2]
     · intro i h1 h2
       have hi : i < 16 := by rw [y.2] at h1; exact h1
       have h3 : ieq (za0 y i) (za0 z i) = true := Classical.byContradiction fun h4 => hc ⟨i, List.mem_range.2 hi, h4⟩
       rw [yeb] at h3
       unfold za0 za9 at h3
       simpa [List.getD_eq_getElem?_getD, List.getElem?_eq_getElem h1, List.getElem?_eq_getElem h2] using h3
 rw [<- key]
 rfl
def ze0 (L : zac) : Prop :=
 (∀ (y : Pr) (d : Int) (h : Bool), L zek (.agg [.int .u8 (L (L za0 y) 0), .int .u8 (L (L za0 y) 1), .int .u8 (L (L za0 y) 2), .int .u8 (L (L za0 y) 3), .int .u8 (L (L za0 y) 4), .int .u8 (L (L za0 y) 5), .int .u8 (L (L za0 y) 6), .int .u8 (L (L za0 y) 7), .int .u8 (L (L za0 y) 8), .int .u8 (L (L za0 y) 9), .int .u8 (L (L za0 y) 10), .int .u8 (L (L za0 y) 11), .int .u8 (L (L za0 y) 12), .int .u8 (L (L za0 y) 13), .int .u8 (L (L za0 y) 14), .int .u8 (L (L za0 y) 15), .int .i64 d, .bool h]) = L (L (L Le.mk y) d) h) /\
 (∀ (y : Pr) (d : Int) (h : Bool), (L zre (.agg [.int .u8 (L (L za0 y) 0), .int .u8 (L (L za0 y) 1), .int .u8 (L (L za0 y) 2), .int .u8 (L (L za0 y) 3), .int .u8 (L (L za0 y) 4), .int .u8 (L (L za0 y) 5), .int .u8 (L (L za0 y) 6), .int .u8 (L (L za0 y) 7), .int .u8 (L (L za0 y) 8), .int .u8 (L (L za0 y) 9), .int .u8 (L (L za0 y) 10), .int .u8 (L (L za0 y) 11), .int .u8 (L (L za0 y) 12), .int .u8 (L (L za0 y) 13), .int .u8 (L (L za0 y) 14), .int .u8 (L (L za0 y) 15), .int .i64 d, .bool h])) = True) /\
 (∀ (y : Pr) (d : Int) (h : Bool), L zek (.agg [.int .u8 (L (L za9 [L (L za0 y) 0, L (L za0 y) 1, L (L za0 y) 2, L (L za0 y) 3, L (L za0 y) 4, L (L za0 y) 5, L (L za0 y) 6, L (L za0 y) 7, L (L za0 y) 8, L (L za0 y) 9, L (L za0 y) 10, L (L za0 y) 11, L (L za0 y) 12, L (L za0 y) 13, L (L za0 y) 14, L (L za0 y) 15]) 0), .int .u8 (L (L za9 [L (L za0 y) 0, L (L za0 y) 1, L (L za0 y) 2, L (L za0 y) 3, L (L za0 y) 4, L (L za0 y) 5, L (L za0 y) 6, L (L za0 y) 7, L (L za0 y) 8, L (L za0 y) 9, L (L za0 y) 10, L (L za0 y) 11, L (L za0 y) 12, L (L za0 y) 13, L (L za0 y) 14, L (L za0 y) 15]) 1), .int .u8 (L (L za9 [L (L za0 y) 0, L (L za0 y) 1, L (L za0 y) 2, L (L za0 y) 3, L (L za0 y) 4, L (L za0 y) 5, L (L za0 y) 6, L (L za0 y) 7, L (L za0 y) 8, L (L za0 y) 9, L (L za0 y) 10, L (L za0 y) 11, L (L za0 y) 12, L (L za0 y) 13, L (L za0 y) 14, L (L za0 y) 15]) 2), .int .u8 (L (L za9 [L (L za0 y) 0, L (L za0 y) 1, L (L za0 y) 2, L (L za0 y) 3, L (L za0 y) 4, L (L za0 y) 5, L (L za0 y) 6, L (L za0 y) 7, L (L za0 y) 8, L (L za0 y) 9, L (L za0 y) 10, L (L za0 y) 11, L (L za0 y) 12, L (L za0 y) 13, L (L za0 y) 14, L (L za0 y) 15]) 3), .int .u8 (L (L za9 [L (L za0 y) 0, L (L za0 y) 1, L (L za0 y) 2, L (L za0 y) 3, L (L za0 y) 4, L (L za0 y) 5, L (L za0 y) 6, L (L za0 y) 7, L (L za0 y) 8, L (L za0 y) 9, L (L za0 y) 10, L (L za0 y) 11, L (L za0 y) 12, L (L za0 y) 13, L (L za0 y) 14, L (L za0 y) 15]) 4), .int .u8 (L (L za9 [L (L za0 y) 0, L (L za0 y) 1, L (L za0 y) 2, L (L za0 y) 3, L (L za0 y) 4, L (L za0 y) 5, L (L za0 y) 6, L (L za0 y) 7, L (L za0 y) 8, L (L za0 y) 9, L (L za0 y) 10, L (L za0 y) 11, L (L za0 y) 12, L (L za0 y) 13, L (L za0 y) 14, L (L za0 y) 15]) 5), .int .u8 (L (L za9 [L (L za0 y) 0, L (L za0 y) 1, L (L za0 y) 2, L (L za0 y) 3, L (L za0 y) 4, L (L za0 y) 5, L (L za0 y) 6, L (L za0 y) 7, L (L za0 y) 8, L (L za0 y) 9, L (L za0 y) 10, L (L za0 y) 11, L (L za0 y) 12, L (L za0 y) 13, L (L za0 y) 14, L (L za0 y) 15]) 6), .int .u8 (L (L za9 [L (L za0 y) 0, L (L za0 y) 1, L (L za0 y) 2, L (L za0 y) 3, L (L za0 y) 4, L (L za0 y) 5, L (L za0 y) 6, L (L za0 y) 7, L (L za0 y) 8, L (L za0 y) 9, L (L za0 y) 10, L (L za0 y) 11, L (L za0 y) 12, L (L za0 y) 13, L (L za0 y) 14, L (L za0 y) 15]) 7), .int .u8 (L (L za9 [L (L za0 y) 0, L (L za0 y) 1, L (L za0 y) 2, L (L za0 y) 3, L (L za0 y) 4, L (L za0 y) 5, L (L za0 y) 6, L (L za0 y) 7, L (L za0 y) 8, L (L za0 y) 9, L (L za0 y) 10, L (L za0 y) 11, L (L za0 y) 12, L (L za0 y) 13, L (L za0 y) 14, L (L za0 y) 15]) 8), .int .u8 (L (L za9 [L (L za0 y) 0, L (L za0 y) 1, L (L za0 y) 2, L (L za0 y) 3, L (L za0 y) 4, L (L za0 y) 5, L (L za0 y) 6, L (L za0 y) 7, L (L za0 y) 8, L (L za0 y) 9, L (L za0 y) 10, L (L za0 y) 11, L (L za0 y) 12, L (L za0 y) 13, L (L za0 y) 14, L (L za0 y) 15]) 9), .int .u8 (L (L za9 [L (L za0 y) 0, L (L za0 y) 1, L (L za0 y) 2, L (L za0 y) 3, L (L za0 y) 4, L (L za0 y) 5, L (L za0 y) 6, L (L za0 y) 7, L (L za0 y) 8, L (L za0 y) 9, L (L za0 y) 10, L (L za0 y) 11, L (L za0 y) 12, L (L za0 y) 13, L (L za0 y) 14, L (L za0 y) 15]) 10), .int .u8 (L (L za9 [L (L za0 y) 0, L (L za0 y) 1, L (L za0 y) 2, L (L za0 y) 3, L (L za0 y) 4, L (L za0 y) 5, L (L za0 y) 6, L (L za0 y) 7, L (L za0 y) 8, L (L za0 y) 9, L (L za0 y) 10, L (L za0 y) 11, L (L za0 y) 12, L (L za0 y) 13, L (L za0 y) 14, L (L za0 y) 15]) 11), .int .u8 (L (L za9 [L (L za0 y) 0, L (L za0 y) 1, L (L za0 y) 2, L (L za0 y) 3, L (L za0 y) 4, L (L za0 y) 5, L (L za0 y) 6, L (L za0 y) 7, L (L za0 y) 8, L (L za0 y) 9, L (L za0 y) 10, L (L za0 y) 11, L (L za0 y) 12, L (L za0 y) 13, L (L za0 y) 14, L (L za0 y) 15]) 12), .int .u8 (L (L za9 [L (L za0 y) 0, L (L za0 y) 1, L (L za0 y) 2, L (L za0 y) 3, L (L za0 y) 4, L (L za0 y) 5, L (L za0 y) 6, L (L za0 y) 7, L (L za0 y) 8, L (L za0 y) 9, L (L za0 y) 10, L (L za0 y) 11, L (L za0 y) 12, L (L za0 y) 13, L (L za0 y) 14, L (L za0 y) 15]) 13), .int .u8 (L (L za9 [L (L za0 y) 0, L (L za0 y) 1, L (L za0 y) 2, L (L za0 y) 3, L (L za0 y) 4, L (L za0 y) 5, L (L za0 y) 6, L (L za0 y) 7, L (L za0 y) 8, L (L za0 y) 9, L (L za0 y) 10, L (L za0 y) 11, L (L za0 y) 12, L (L za0 y) 13, L (L za0 y) 14, L (L za0 y) 15]) 14), .int .u8 (L (L za9 [L (L za0 y) 0, L (L za0 y) 1, L (L za0 y) 2, L (L za0 y) 3, L (L za0 y) 4, L (L za0 y) 5, L (L za0 y) 6, L (L za0 y) 7, L (L za0 y) 8, L (L za0 y) 9, L (L za0 y) 10, L (L za0 y) 11, L (L za0 y) 12, L (L za0 y) 13, L (L za0 y) 14, L (L za0 y) 15]) 15), .int .i64 d, .bool h]) = L (L (L Le.mk y) d) h) /\
 (∀ (y : Pr) (d : Int) (h : Bool), (L zre (.agg [.int .u8 (L (L za9 [L (L za0 y) 0, L (L za0 y) 1, L (L za0 y) 2, L (L za0 y) 3, L (L za0 y) 4, L (L za0 y) 5, L (L za0 y) 6, L (L za0 y) 7, L (L za0 y) 8, L (L za0 y) 9, L (L za0 y) 10, L (L za0 y) 11, L (L za0 y) 12, L (L za0 y) 13, L (L za0 y) 14, L (L za0 y) 15]) 0), .int .u8 (L (L za9 [L (L za0 y) 0, L (L za0 y) 1, L (L za0 y) 2, L (L za0 y) 3, L (L za0 y) 4, L (L za0 y) 5, L (L za0 y) 6, L (L za0 y) 7, L (L za0 y) 8, L (L za0 y) 9, L (L za0 y) 10, L (L za0 y) 11, L (L za0 y) 12, L (L za0 y) 13, L (L za0 y) 14, L (L za0 y) 15]) 1), .int .u8 (L (L za9 [L (L za0 y) 0, L (L za0 y) 1, L (L za0 y) 2, L (L za0 y) 3, L (L za0 y) 4, L (L za0 y) 5, L (L za0 y) 6, L (L za0 y) 7, L (L za0 y) 8, L (L za0 y) 9, L (L za0 y) 10, L (L za0 y) 11, L (L za0 y) 12, L (L za0 y) 13, L (L za0 y) 14, L (L za0 y) 15]) 2), .int .u8 (L (L za9 [L (L za0 y) 0, L (L za0 y) 1, L (L za0 y) 2, L (L za0 y) 3, L (L za0 y) 4, L (L za0 y) 5, L (L za0 y) 6, L (L za0 y) 7, L (L za0 y) 8, L (L za0 y) 9, L (L za0 y) 10, L (L za0 y) 11, L (L za0 y) 12, L (L za0 y) 13, L (L za0 y) 14, L (L za0 y) 15]) 3), .int .u8 (L (L za9 [L (L za0 y) 0, L (L za0 y) 1, L (L za0 y) 2, L (L za0 y) 3, L (L za0 y) 4, L (L za0 y) 5, L (L za0 y) 6, L (L za0 y) 7, L (L za0 y) 8, L (L za0 y) 9, L (L za0 y) 10, L (L za0 y) 11, L (L za0 y) 12, L (L za0 y) 13, L (L za0 y) 14, L (L za0 y) 15]) 4), .int .u8 (L (L za9 [L (L za0 y) 0, L (L za0 y) 1, L (L za0 y) 2, L (L za0 y) 3, L (L za0 y) 4, L (L za0 y) 5, L (L za0 y) 6, L (L za0 y) 7, L (L za0 y) 8, L (L za0 y) 9, L (L za0 y) 10, L (L za0 y) 11, L (L za0 y) 12, L (L za0 y) 13, L (L za0 y) 14, L (L za0 y) 15]) 5), .int .u8 (L (L za9 [L (L za0 y) 0, L (L za0 y) 1, L (L za0 y) 2, L (L za0 y) 3, L (L za0 y) 4, L (L za0 y) 5, L (L za0 y) 6, L (L za0 y) 7, L (L za0 y) 8, L (L za0 y) 9, L (L za0 y) 10, L (L za0 y) 11, L (L za0 y) 12, L (L za0 y) 13, L (L za0 y) 14, L (L za0 y) 15]) 6), .int .u8 (L (L za9 [L (L za0 y) 0, L (L za0 y) 1, L (L za0 y) 2, L (L za0 y) 3, L (L za0 y) 4, L (L za0 y) 5, L (L za0 y) 6, L (L za0 y) 7, L (L za0 y) 8, L (L za0 y) 9, L (L za0 y) 10, L (L za0 y) 11, L (L za0 y) 12, L (L za0 y) 13, L (L za0 y) 14, L (L za0 y) 15]) 7), .int .u8 (L (L za9 [L (L za0 y) 0, L (L za0 y) 1, L (L za0 y) 2, L (L za0 y) 3, L (L za0 y) 4, L (L za0 y) 5, L (L za0 y) 6, L (L za0 y) 7, L (L za0 y) 8, L (L za0 y) 9, L (L za0 y) 10, L (L za0 y) 11, L (L za0 y) 12, L (L za0 y) 13, L (L za0 y) 14, L (L za0 y) 15]) 8), .int .u8 (L (L za9 [L (L za0 y) 0, L (L za0 y) 1, L (L za0 y) 2, L (L za0 y) 3, L (L za0 y) 4, L (L za0 y) 5, L (L za0 y) 6, L (L za0 y) 7, L (L za0 y) 8, L (L za0 y) 9, L (L za0 y) 10, L (L za0 y) 11, L (L za0 y) 12, L (L za0 y) 13, L (L za0 y) 14, L (L za0 y) 15]) 9), .int .u8 (L (L za9 [L (L za0 y) 0, L (L za0 y) 1, L (L za0 y) 2, L (L za0 y) 3, L (L za0 y) 4, L (L za0 y) 5, L (L za0 y) 6, L (L za0 y) 7, L (L za0 y) 8, L (L za0 y) 9, L (L za0 y) 10, L (L za0 y) 11, L (L za0 y) 12, L (L za0 y) 13, L (L za0 y) 14, L (L za0 y) 15]) 10), .int .u8 (L (L za9 [L (L za0 y) 0, L (L za0 y) 1, L (L za0 y) 2, L (L za0 y) 3, L (L za0 y) 4, L (L za0 y) 5, L (L za0 y) 6, L (L za0 y) 7, L (L za0 y) 8, L (L za0 y) 9, L (L za0 y) 10, L (L za0 y) 11, L (L za0 y) 12, L (L za0 y) 13, L (L za0 y) 14, L (L za0 y) 15]) 11), .int .u8 (L (L za9 [L (L za0 y) 0, L (L za0 y) 1, L (L za0 y) 2, L (L za0 y) 3, L (L za0 y) 4, L (L za0 y) 5, L (L za0 y) 6, L (L za0 y) 7, L (L za0 y) 8, L (L za0 y) 9, L (L za0 y) 10, L (L za0 y) 11, L (L za0 y) 12, L (L za0 y) 13, L (L za0 y) 14, L (L za0 y) 15]) 12), .int .u8 (L (L za9 [L (L za0 y) 0, L (L za0 y) 1, L (L za0 y) 2, L (L za0 y) 3, L (L za0 y) 4, L (L za0 y) 5, L (L za0 y) 6, L (L za0 y) 7, L (L za0 y) 8, L (L za0 y) 9, L (L za0 y) 10, L (L za0 y) 11, L (L za0 y) 12, L (L za0 y) 13, L (L za0 y) 14, L (L za0 y) 15]) 13), .int .u8 (L (L za9 [L (L za0 y) 0, L (L za0 y) 1, L (L za0 y) 2, L (L za0 y) 3, L (L za0 y) 4, L (L za0 y) 5, L (L za0 y) 6, L (L za0 y) 7, L (L za0 y) 8, L (L za0 y) 9, L (L za0 y) 10, L (L za0 y) 11, L (L za0 y) 12, L (L za0 y) 13, L (L za0 y) 14, L (L za0 y) 15]) 14), .int .u8 (L (L za9 [L (L za0 y) 0, L (L za0 y) 1, L (L za0 y) 2, L (L za0 y) 3, L (L za0 y) 4, L (L za0 y) 5, L (L za0 y) 6, L (L za0 y) 7, L (L za0 y) 8, L (L za0 y) 9, L (L za0 y) 10, L (L za0 y) 11, L (L za0 y) 12, L (L za0 y) 13, L (L za0 y) 14, L (L za0 y) 15]) 15), .int .i64 d, .bool h])) = True) /\
 (∀ y : Le, L (L (L Le.mk (L Le.p y)) (L Le.d y)) (L Le.h y) = y) /\
 (∀ y z : Pr, (L (L and (L (L ieq (L (L za0 y) 0)) (L (L za0 z) 0))) (L (L and (L (L ieq (L (L za0 y) 1)) (L (L za0 z) 1))) (L (L and (L (L ieq (L (L za0 y) 2)) (L (L za0 z) 2))) (L (L and (L (L ieq (L (L za0 y) 3)) (L (L za0 z) 3))) (L (L and (L (L ieq (L (L za0 y) 4)) (L (L za0 z) 4))) (L (L and (L (L ieq (L (L za0 y) 5)) (L (L za0 z) 5))) (L (L and (L (L ieq (L (L za0 y) 6)) (L (L za0 z) 6))) (L (L and (L (L ieq (L (L za0 y) 7)) (L (L za0 z) 7))) (L (L and (L (L ieq (L (L za0 y) 8)) (L (L za0 z) 8))) (L (L and (L (L ieq (L (L za0 y) 9)) (L (L za0 z) 9))) (L (L and (L (L ieq (L (L za0 y) 10)) (L (L za0 z) 10))) (L (L and (L (L ieq (L (L za0 y) 11)) (L (L za0 z) 11))) (L (L and (L (L ieq (L (L za0 y) 12)) (L (L za0 z) 12))) (L (L and (L (L ieq (L (L za0 y) 13)) (L (L za0 z) 13))) (L (L and (L (L ieq (L (L za0 y) 14)) (L (L za0 z) 14))) (L (L and (L (L ieq (L (L za0 y) 15)) (L (L za0 z) 15))) (true))))))))))))))))) = L (L ynf y) z) /\
 (∀ (y : Pr) (d : Int) (h : Bool), L Le.p (L (L (L Le.mk y) d) h) = y) /\
 (∀ y : Pr, L zas (.agg [.int .u8 (L (L za0 y) 0), .int .u8 (L (L za0 y) 1), .int .u8 (L (L za0 y) 2), .int .u8 (L (L za0 y) 3), .int .u8 (L (L za0 y) 4), .int .u8 (L (L za0 y) 5), .int .u8 (L (L za0 y) 6), .int .u8 (L (L za0 y) 7), .int .u8 (L (L za0 y) 8), .int .u8 (L (L za0 y) 9), .int .u8 (L (L za0 y) 10), .int .u8 (L (L za0 y) 11), .int .u8 (L (L za0 y) 12), .int .u8 (L (L za0 y) 13), .int .u8 (L (L za0 y) 14), .int .u8 (L (L za0 y) 15)]) = y) /\
 (∀ y : Pr, (L zhb (.agg [.int .u8 (L (L za0 y) 0), .int .u8 (L (L za0 y) 1), .int .u8 (L (L za0 y) 2), .int .u8 (L (L za0 y) 3), .int .u8 (L (L za0 y) 4), .int .u8 (L (L za0 y) 5), .int .u8 (L (L za0 y) 6), .int .u8 (L (L za0 y) 7), .int .u8 (L (L za0 y) 8), .int .u8 (L (L za0 y) 9), .int .u8 (L (L za0 y) 10), .int .u8 (L (L za0 y) 11), .int .u8 (L (L za0 y) 12), .int .u8 (L (L za0 y) 13), .int .u8 (L (L za0 y) 14), .int .u8 (L (L za0 y) 15)])) = True) /\
 (∀ y : Pr, L zas (.agg [.int .u8 (L (L za9 [L (L za0 y) 0, L (L za0 y) 1, L (L za0 y) 2, L (L za0 y) 3, L (L za0 y) 4, L (L za0 y) 5, L (L za0 y) 6, L (L za0 y) 7, L (L za0 y) 8, L (L za0 y) 9, L (L za0 y) 10, L (L za0 y) 11, L (L za0 y) 12, L (L za0 y) 13, L (L za0 y) 14, L (L za0 y) 15]) 0), .int .u8 (L (L za9 [L (L za0 y) 0, L (L za0 y) 1, L (L za0 y) 2, L (L za0 y) 3, L (L za0 y) 4, L (L za0 y) 5, L (L za0 y) 6, L (L za0 y) 7, L (L za0 y) 8, L (L za0 y) 9, L (L za0 y) 10, L (L za0 y) 11, L (L za0 y) 12, L (L za0 y) 13, L (L za0 y) 14, L (L za0 y) 15]) 1), .int .u8 (L (L za9 [L (L za0 y) 0, L (L za0 y) 1, L (L za0 y) 2, L (L za0 y) 3, L (L za0 y) 4, L (L za0 y) 5, L (L za0 y) 6, L (L za0 y) 7, L (L za0 y) 8, L (L za0 y) 9, L (L za0 y) 10, L (L za0 y) 11, L (L za0 y) 12, L (L za0 y) 13, L (L za0 y) 14, L (L za0 y) 15]) 2), .int .u8 (L (L za9 [L (L za0 y) 0, L (L za0 y) 1, L (L za0 y) 2, L (L za0 y) 3, L (L za0 y) 4, L (L za0 y) 5, L (L za0 y) 6, L (L za0 y) 7, L (L za0 y) 8, L (L za0 y) 9, L (L za0 y) 10, L (L za0 y) 11, L (L za0 y) 12, L (L za0 y) 13, L (L za0 y) 14, L (L za0 y) 15]) 3), .int .u8 (L (L za9 [L (L za0 y) 0, L (L za0 y) 1, L (L za0 y) 2, L (L za0 y) 3, L (L za0 y) 4, L (L za0 y) 5, L (L za0 y) 6, L (L za0 y) 7, L (L za0 y) 8, L (L za0 y) 9, L (L za0 y) 10, L (L za0 y) 11, L (L za0 y) 12, L (L za0 y) 13, L (L za0 y) 14, L (L za0 y) 15]) 4), .int .u8 (L (L za9 [L (L za0 y) 0, L (L za0 y) 1, L (L za0 y) 2, L (L za0 y) 3, L (L za0 y) 4, L (L za0 y) 5, L (L za0 y) 6, L (L za0 y) 7, L (L za0 y) 8, L (L za0 y) 9, L (L za0 y) 10, L (L za0 y) 11, L (L za0 y) 12, L (L za0 y) 13, L (L za0 y) 14, L (L za0 y) 15]) 5), .int .u8 (L (L za9 [L (L za0 y) 0, L (L za0 y) 1, L (L za0 y) 2, L (L za0 y) 3, L (L za0 y) 4, L (L za0 y) 5, L (L za0 y) 6, L (L za0 y) 7, L (L za0 y) 8, L (L za0 y) 9, L (L za0 y) 10, L (L za0 y) 11, L (L za0 y) 12, L (L za0 y) 13, L (L za0 y) 14, L (L za0 y) 15]) 6), .int .u8 (L (L za9 [L (L za0 y) 0, L (L za0 y) 1, L (L za0 y) 2, L (L za0 y) 3, L (L za0 y) 4, L (L za0 y) 5, L (L za0 y) 6, L (L za0 y) 7, L (L za0 y) 8, L (L za0 y) 9, L (L za0 y) 10, L (L za0 y) 11, L (L za0 y) 12, L (L za0 y) 13, L (L za0 y) 14, L (L za0 y) 15]) 7), .int .u8 (L (L za9 [L (L za0 y) 0, L (L za0 y) 1, L (L za0 y) 2, L (L za0 y) 3, L (L za0 y) 4, L (L za0 y) 5, L (L za0 y) 6, L (L za0 y) 7, L (L za0 y) 8, L (L za0 y) 9, L (L za0 y) 10, L (L za0 y) 11, L (L za0 y) 12, L (L za0 y) 13, L (L za0 y) 14, L (L za0 y) 15]) 8), .int .u8 (L (L za9 [L (L za0 y) 0, L (L za0 y) 1, L (L za0 y) 2, L (L za0 y) 3, L (L za0 y) 4, L (L za0 y) 5, L (L za0 y) 6, L (L za0 y) 7, L (L za0 y) 8, L (L za0 y) 9, L (L za0 y) 10, L (L za0 y) 11, L (L za0 y) 12, L (L za0 y) 13, L (L za0 y) 14, L (L za0 y) 15]) 9), .int .u8 (L (L za9 [L (L za0 y) 0, L (L za0 y) 1, L (L za0 y) 2, L (L za0 y) 3, L (L za0 y) 4, L (L za0 y) 5, L (L za0 y) 6, L (L za0 y) 7, L (L za0 y) 8, L (L za0 y) 9, L (L za0 y) 10, L (L za0 y) 11, L (L za0 y) 12, L (L za0 y) 13, L (L za0 y) 14, L (L za0 y) 15]) 10), .int .u8 (L (L za9 [L (L za0 y) 0, L (L za0 y) 1, L (L za0 y) 2, L (L za0 y) 3, L (L za0 y) 4, L (L za0 y) 5, L (L za0 y) 6, L (L za0 y) 7, L (L za0 y) 8, L (L za0 y) 9, L (L za0 y) 10, L (L za0 y) 11, L (L za0 y) 12, L (L za0 y) 13, L (L za0 y) 14, L (L za0 y) 15]) 11), .int .u8 (L (L za9 [L (L za0 y) 0, L (L za0 y) 1, L (L za0 y) 2, L (L za0 y) 3, L (L za0 y) 4, L (L za0 y) 5, L (L za0 y) 6, L (L za0 y) 7, L (L za0 y) 8, L (L za0 y) 9, L (L za0 y) 10, L (L za0 y) 11, L (L za0 y) 12, L (L za0 y) 13, L (L za0 y) 14, L (L za0 y) 15]) 12), .int .u8 (L (L za9 [L (L za0 y) 0, L (L za0 y) 1, L (L za0 y) 2, L (L za0 y) 3, L (L za0 y) 4, L (L za0 y) 5, L (L za0 y) 6, L (L za0 y) 7, L (L za0 y) 8, L (L za0 y) 9, L (L za0 y) 10, L (L za0 y) 11, L (L za0 y) 12, L (L za0 y) 13, L (L za0 y) 14, L (L za0 y) 15]) 13), .int .u8 (L (L za9 [L (L za0 y) 0, L (L za0 y) 1, L (L za0 y) 2, L (L za0 y) 3, L (L za0 y) 4, L (L za0 y) 5, L (L za0 y) 6, L (L za0 y) 7, L (L za0 y) 8, L (L za0 y) 9, L (L za0 y) 10, L (L za0 y) 11, L (L za0 y) 12, L (L za0 y) 13, L (L za0 y) 14, L (L za0 y) 15]) 14), .int .u8 (L (L za9 [L (L za0 y) 0, L (L za0 y) 1, L (L za0 y) 2, L (L za0 y) 3, L (L za0 y) 4, L (L za0 y) 5, L (L za0 y) 6, L (L za0 y) 7, L (L za0 y) 8, L (L za0 y) 9, L (L za0 y) 10, L (L za0 y) 11, L (L za0 y) 12, L (L za0 y) 13, L (L za0 y) 14, L (L za0 y) 15]) 15)]) = y) /\
 (∀ y : Pr, (L zhb (.agg [.int .u8 (L (L za9 [L (L za0 y) 0, L (L za0 y) 1, L (L za0 y) 2, L (L za0 y) 3, L (L za0 y) 4, L (L za0 y) 5, L (L za0 y) 6, L (L za0 y) 7, L (L za0 y) 8, L (L za0 y) 9, L (L za0 y) 10, L (L za0 y) 11, L (L za0 y) 12, L (L za0 y) 13, L (L za0 y) 14, L (L za0 y) 15]) 0), .int .u8 (L (L za9 [L (L za0 y) 0, L (L za0 y) 1, L (L za0 y) 2, L (L za0 y) 3, L (L za0 y) 4, L (L za0 y) 5, L (L za0 y) 6, L (L za0 y) 7, L (L za0 y) 8, L (L za0 y) 9, L (L za0 y) 10, L (L za0 y) 11, L (L za0 y) 12, L (L za0 y) 13, L (L za0 y) 14, L (L za0 y) 15]) 1), .int .u8 (L (L za9 [L (L za0 y) 0, L (L za0 y) 1, L (L za0 y) 2, L (L za0 y) 3, L (L za0 y) 4, L (L za0 y) 5, L (L za0 y) 6, L (L za0 y) 7, L (L za0 y) 8, L (L za0 y) 9, L (L za0 y) 10, L (L za0 y) 11, L (L za0 y) 12, L (L za0 y) 13, L (L za0 y) 14, L (L za0 y) 15]) 2), .int .u8 (L (L za9 [L (L za0 y) 0, L (L za0 y) 1, L (L za0 y) 2, L (L za0 y) 3, L (L za0 y) 4, L (L za0 y) 5, L (L za0 y) 6, L (L za0 y) 7, L (L za0 y) 8, L (L za0 y) 9, L (L za0 y) 10, L (L za0 y) 11, L (L za0 y) 12, L (L za0 y) 13, L (L za0 y) 14, L (L za0 y) 15]) 3), .int .u8 (L (L za9 [L (L za0 y) 0, L (L za0 y) 1, L (L za0 y) 2, L (L za0 y) 3, L (L za0 y) 4, L (L za0 y) 5, L (L za0 y) 6, L (L za0 y) 7, L (L za0 y) 8, L (L za0 y) 9, L (L za0 y) 10, L (L za0 y) 11, L (L za0 y) 12, L (L za0 y) 13, L (L za0 y) 14, L (L za0 y) 15]) 4), .int .u8 (L (L za9 [L (L za0 y) 0, L (L za0 y) 1, L (L za0 y) 2, L (L za0 y) 3, L (L za0 y) 4, L (L za0 y) 5, L (L za0 y) 6, L (L za0 y) 7, L (L za0 y) 8, L (L za0 y) 9, L (L za0 y) 10, L (L za0 y) 11, L (L za0 y) 12, L (L za0 y) 13, L (L za0 y) 14, L (L za0 y) 15]) 5), .int .u8 (L (L za9 [L (L za0 y) 0, L (L za0 y) 1, L (L za0 y) 2, L (L za0 y) 3, L (L za0 y) 4, L (L za0 y) 5, L (L za0 y) 6, L (L za0 y) 7, L (L za0 y) 8, L (L za0 y) 9, L (L za0 y) 10, L (L za0 y) 11, L (L za0 y) 12, L (L za0 y) 13, L (L za0 y) 14, L (L za0 y) 15]) 6), .int .u8 (L (L za9 [L (L za0 y) 0, L (L za0 y) 1, L (L za0 y) 2, L (L za0 y) 3, L (L za0 y) 4, L (L za0 y) 5, L (L za0 y) 6, L (L za0 y) 7, L (L za0 y) 8, L (L za0 y) 9, L (L za0 y) 10, L (L za0 y) 11, L (L za0 y) 12, L (L za0 y) 13, L (L za0 y) 14, L (L za0 y) 15]) 7), .int .u8 (L (L za9 [L (L za0 y) 0, L (L za0 y) 1, L (L za0 y) 2, L (L za0 y) 3, L (L za0 y) 4, L (L za0 y) 5, L (L za0 y) 6, L (L za0 y) 7, L (L za0 y) 8, L (L za0 y) 9, L (L za0 y) 10, L (L za0 y) 11, L (L za0 y) 12, L (L za0 y) 13, L (L za0 y) 14, L (L za0 y) 15]) 8), .int .u8 (L (L za9 [L (L za0 y) 0, L (L za0 y) 1, L (L za0 y) 2, L (L za0 y) 3, L (L za0 y) 4, L (L za0 y) 5, L (L za0 y) 6, L (L za0 y) 7, L (L za0 y) 8, L (L za0 y) 9, L (L za0 y) 10, L (L za0 y) 11, L (L za0 y) 12, L (L za0 y) 13, L (L za0 y) 14, L (L za0 y) 15]) 9), .int .u8 (L (L za9 [L (L za0 y) 0, L (L za0 y) 1, L (L za0 y) 2, L (L za0 y) 3, L (L za0 y) 4, L (L za0 y) 5, L (L za0 y) 6, L (L za0 y) 7, L (L za0 y) 8, L (L za0 y) 9, L (L za0 y) 10, L (L za0 y) 11, L (L za0 y) 12, L (L za0 y) 13, L (L za0 y) 14, L (L za0 y) 15]) 10), .int .u8 (L (L za9 [L (L za0 y) 0, L (L za0 y) 1, L (L za0 y) 2, L (L za0 y) 3, L (L za0 y) 4, L (L za0 y) 5, L (L za0 y) 6, L (L za0 y) 7, L (L za0 y) 8, L (L za0 y) 9, L (L za0 y) 10, L (L za0 y) 11, L (L za0 y) 12, L (L za0 y) 13, L (L za0 y) 14, L (L za0 y) 15]) 11), .int .u8 (L (L za9 [L (L za0 y) 0, L (L za0 y) 1, L (L za0 y) 2, L (L za0 y) 3, L (L za0 y) 4, L (L za0 y) 5, L (L za0 y) 6, L (L za0 y) 7, L (L za0 y) 8, L (L za0 y) 9, L (L za0 y) 10, L (L za0 y) 11, L (L za0 y) 12, L (L za0 y) 13, L (L za0 y) 14, L (L za0 y) 15]) 12), .int .u8 (L (L za9 [L (L za0 y) 0, L (L za0 y) 1, L (L za0 y) 2, L (L za0 y) 3, L (L za0 y) 4, L (L za0 y) 5, L (L za0 y) 6, L (L za0 y) 7, L (L za0 y) 8, L (L za0 y) 9, L (L za0 y) 10, L (L za0 y) 11, L (L za0 y) 12, L (L za0 y) 13, L (L za0 y) 14, L (L za0 y) 15]) 13), .int .u8 (L (L za9 [L (L za0 y) 0, L (L za0 y) 1, L (L za0 y) 2, L (L za0 y) 3, L (L za0 y) 4, L (L za0 y) 5, L (L za0 y) 6, L (L za0 y) 7, L (L za0 y) 8, L (L za0 y) 9, L (L za0 y) 10, L (L za0 y) 11, L (L za0 y) 12, L (L za0 y) 13, L (L za0 y) 14, L (L za0 y) 15]) 14), .int .u8 (L (L za9 [L (L za0 y) 0, L (L za0 y) 1, L (L za0 y) 2, L (L za0 y) 3, L (L za0 y) 4, L (L za0 y) 5, L (L za0 y) 6, L (L za0 y) 7, L (L za0 y) 8, L (L za0 y) 9, L (L za0 y) 10, L (L za0 y) 11, L (L za0 y) 12, L (L za0 y) 13, L (L za0 y) 14, L (L za0 y) 15]) 15)])) = True) /\
 (∀ y : List Le, L zaa (.lst 18 (L zg4 y) (fun i => leC L (L (L za4 y) i))) = y) /\
 (∀ y : List Le, (L zf4 (.lst 18 (L zg4 y) (fun i => leC L (L (L za4 y) i)))) = True)
theorem zeg : ze0 std :=
 ⟨fun y d h => (yhu ⟨y, d, h⟩).2,
  fun y d h => eq_true (yhu ⟨y, d, h⟩).1,
  fun y d h => (yhu ⟨y, d, h⟩).2,
  fun y d h => eq_true (yhu ⟨y, d, h⟩).1,
  fun y => rfl,
  fun y z => zto y z,
  fun y d h => rfl,
  fun y => (yc6 y).2,
  fun y => eq_true (yc6 y).1,
  fun y => (yc6 y).2,
  fun y => eq_true (yc6 y).1,
  fun y => yvx y,
  fun y => eq_true (yw8 y)⟩
def zcd (l : List Le) : Prop := l.length <= 1000000
def zf7 (l : List Le) (p : Pr) : Int := zdb (prN p) l
def zx1 (l : List Le) (p : Pr) : Bool := zby p l
def lbIn (l : List Le) (p : Pr) (x : Nat × Nat) : Prop := x.1 <= zdb (prN p) l /\ zdb (prN p) l <= x.2 /\ x.2 <= l.length
def lbGo (x : Nat × Nat) : Nat := x.2 - x.1
def lbsA (L : zac) (l : List Le) (p : Pr) : Nat -> St -> Option Ann := fun id st => match id with
 | 0 => some ⟨Nat × Nat, fun x => [(9, .int .i64 (L za6 (L Prod.fst x))), (10, .int .i64 (L za6 (L Prod.snd x)))], fun x => [], [0, 2, 4, 8], [4], fun x => L3 L lbIn l p x, fun x => L lbGo x⟩
 | _ => none
def yoa (L : zac) : zcr := (43, fun xs => match xs with
 | [x, q, .fn k [] []] => match zay k 44 with
   | true => some (L zf4 x /\ L zhb q /\ L zcd (L zaa x) /\ L zcs (L zaa x) /\ L zfh (L zas q), .tup [.int .i64 (L2 L zf7 (L zaa x) (L zas q)), .bool (L2 L zx1 (L zaa x) (L zas q))])
   | false => none
 | _ => none)
theorem zqe {i j : Nat} {m : Int} (h : j <= 1000000) (hi : (i : Int) < (j : Int)) (hm : (zoh .u64 ((((i : Int) + (j : Int) + 9223372036854775808) % 18446744073709551616 - 9223372036854775808) % 18446744073709551616) 1 + 9223372036854775808) % 18446744073709551616 - 9223372036854775808 = m) :
   m = (((i + j) / 2 : Nat) : Int) := by
 have e : zoh .u64 ((((i : Int) + (j : Int) + 9223372036854775808) % 18446744073709551616 - 9223372036854775808) % 18446744073709551616) 1 = ((i : Int) + j) / 2 := by
   rw [show (((i : Int) + (j : Int) + 9223372036854775808) % 18446744073709551616 - 9223372036854775808) % 18446744073709551616 = (i : Int) + j by omega]
   unfold zoh
   show Int.fdiv _ (2 ^ 1) = _
   rw [Int.fdiv_eq_ediv_of_nonneg _ (by decide)]
   rfl
 rw [e] at hm
 omega
theorem ylr {p q : Pr} : (zr6 p q < 0) = (prN p < prN q) := by
 unfold zr6
 split
 · rename_i h; exact propext ⟨fun _ => h, fun _ => by decide⟩
 · rename_i h
   split
   · exact propext ⟨fun h2 => by omega, fun h2 => absurd h2 h⟩
   · exact propext ⟨fun h2 => by omega, fun h2 => absurd h2 h⟩
theorem yf8 {p q : Pr} : (zr6 p q = 0) = (prN p = prN q) := by
 unfold zr6
 split
 · rename_i h; exact propext ⟨fun h2 => by omega, fun h2 => by omega⟩
 · rename_i h
   split
   · exact propext ⟨fun h2 => by omega, fun h2 => by omega⟩
   · exact propext ⟨fun h2 => by omega, fun _ => rfl⟩
theorem yob {l : List Le} {p : Pr} (hok : zcs l) (hpo : zfh p) {i : Nat} (e : i = zdb (prN p) l) : ((i : Int) < (l.length : Int) -> ieq (zr6 (za4 l i).p p) 0 = zby p l) /\ ((l.length : Int) <= (i : Int) -> false = zby p l) := by
 subst e
 constructor
 · intro h
   have h : zdb (prN p) l < l.length := by omega
   rw [zb5 h]
   have hh := ywk hok hpo h
   cases hb : zby p l with
   | true =>
     have := hh.2 hb
     simp only [ieq, beq_iff_eq, yf8]; exact this
   | false =>
     simp only [ieq, beq_eq_false_iff_ne, ne_eq, yf8]
     intro h2
     rw [hh.1 h2] at hb; cases hb
 · intro h
   cases hb : zby p l with
   | true =>
     obtain ⟨h2, _⟩ := (zid hok hpo).1 hb
     omega
   | false => rfl
theorem yj7 : zcu Tryz.prog (yoa std) := by
 intro xs p r h hp
 unfold yoa at h
 simp only at h
 split at h
 rotate_left
 · cases h
 rename_i x q k
 cases hk : zay k 44 with
 | false => rw [hk] at h; cases h
 | true =>
 rw [hk] at h
 obtain rfl : k = 44 := of_decide_eq_true hk
 cases h
 obtain ⟨ho, ho2, hz, hok, hpo⟩ := hp
 refine zuz zch ho (zkx zh0 ho2 ?_)
 rw [zf2]
 have hz : zcd (zaa x) := hz
 have hok : zcs (zaa x) := hok
 have hpo : zfh (zas q) := hpo
 show zae _ _ (zl9 std leV (zaa x) :: zi8 std (zas q) :: _) (.tup [.int .i64 (zf7 (zaa x) (zas q)), .bool (zx1 (zaa x) (zas q))])
 generalize zaa x = l at hz hok |-
 generalize zas q = p at hpo |-
 refine zal (T := tt) (S := fun L => zbe [yo8 L]) (lo := fun L => lbsA L l p) (lb := noA) 5 (fn := Tryz.f43) (xs := fun L => [zbf L l, zi8 L p, .fn 44 [] []]) rfl rfl (by kernel_rfl) (by kernel_rfl) rfl zah (zab ⟨yj5, trivial⟩) (by kernel_rfl) ?_
 intro L P' Q' hL hP hQ
 have hw : zg4 l = l.length := rfl
 have hz : l.length <= 1000000 := hz
 have hlb := zmc (prN p) l
 obtain ⟨hE, hEo, hF, hFo, hEta, hPe, hMp, hQ0, hQo, hQ1, hQ1o, hG, hGo⟩ : ze0 L := by subst hL; exact zeg
 obtain ⟨nl, hnl⟩ : ∃ nl, nl = l.length := ⟨_, rfl⟩
 (cbv; try simp only [syT, true_and, and_true])
 refine ⟨⟨(0, nl), ?_⟩, fun x hx => ?_⟩
 · (cbv; try simp only [syT, true_and, and_true])
   (subst hL; subst hQ; simp only [L2, L3, std] at *; try simp only [syS, reduceCtorEq, Int.reduceToNat, Int.reduceAdd, Int.reduceSub] at *)
   subst hnl
   exact ⟨rfl, Nat.zero_le _, hlb, Nat.le_refl _⟩
 · cbv at hx
   (cbv; try simp only [syT, true_and, and_true])
   simp only [hPe, hE, hEo, hF, hFo, hEta, hMp, hQ1, hQ1o, hQ0, hQo, hG, hGo, true_and]
   generalize hm : L IntKind.i64.wrap (L (L (zoh .u64) (L IntKind.u64.wrap (L (L (zbt .i64) (L za6 (L Prod.fst x))) (L za6 (L Prod.snd x))))) 1) = m
   refine ⟨fun hlt => ⟨?_, ?_, ?_, fun hc => ?_, fun hc => ?_⟩, fun hge => ?_⟩
   · (subst hL; subst hQ; simp only [L2, L3, std] at *; try simp only [syS, reduceCtorEq, Int.reduceToNat, Int.reduceAdd, Int.reduceSub] at *)
     decide
   · (subst hL; subst hQ; simp only [L2, L3, std] at *; try simp only [syS, reduceCtorEq, Int.reduceToNat, Int.reduceAdd, Int.reduceSub] at *)
     obtain ⟨x1, x2, x3⟩ := hx
     have hmm := zqe (by omega) hlt hm
     clear hm
     omega
   · (subst hL; subst hQ; simp only [L2, L3, std] at *; try simp only [syS, reduceCtorEq, Int.reduceToNat, Int.reduceAdd, Int.reduceSub] at *)
     obtain ⟨x1, x2, x3⟩ := hx
     have hmm := zqe (by omega) hlt hm
     clear hm
     have hl : m.toNat < l.length := by omega
     refine ⟨?_, hpo⟩
     show zfh (za4 l m.toNat).p
     rw [zb5 hl]
     exact (hok.ok _ (List.getElem_mem hl)).1
   · obtain ⟨y, hy⟩ : ∃ y : Nat × Nat, y = (m.toNat + 1, x.2) := ⟨_, rfl⟩
     refine ⟨y, ?_⟩
     (cbv; try simp only [syT, true_and, and_true])
     (subst hL; subst hQ; simp only [L2, L3, std] at *; try simp only [syS, reduceCtorEq, Int.reduceToNat, Int.reduceAdd, Int.reduceSub] at *)
     obtain ⟨x1, x2, x3⟩ := hx
     have hmm := zqe (by omega) hlt hm
     clear hm
     have hl : m.toNat < l.length := by omega
     rw [zb5 hl, ylr] at hc
     have hlt2 : m.toNat < zdb (prN p) l := by
       rcases Nat.lt_or_ge m.toNat (zdb (prN p) l) with h | h
       · exact h
       · have := zpo hok.ris hl h
         have hc : kLe l[m.toNat] < prN p := hc
         omega
     subst hy
     refine ⟨rfl, by show _ = ((m.toNat + 1 : Nat) : Int); omega, ⟨hlt2, x2, x3⟩, ?_⟩
     show x.2 - (m.toNat + 1) + 1 <= x.2 - x.1
     omega
   · obtain ⟨y, hy⟩ : ∃ y : Nat × Nat, y = (x.1, m.toNat) := ⟨_, rfl⟩
     refine ⟨y, ?_⟩
     (cbv; try simp only [syT, true_and, and_true])
     (subst hL; subst hQ; simp only [L2, L3, std] at *; try simp only [syS, reduceCtorEq, Int.reduceToNat, Int.reduceAdd, Int.reduceSub] at *)
     obtain ⟨x1, x2, x3⟩ := hx
     have hmm := zqe (by omega) hlt hm
     clear hm
     have hl : m.toNat < l.length := by omega
     have hc : ¬ zr6 (za4 l m.toNat).p p < 0 := by omega
     rw [zb5 hl, ylr] at hc
     have hge2 : ¬ m.toNat < zdb (prN p) l := fun h => hc (zk8 hl h)
     subst hy
     refine ⟨by show m = ((m.toNat : Nat) : Int); omega, rfl, ⟨x1, by show zdb (prN p) l <= m.toNat; omega, by show m.toNat <= l.length; omega⟩, ?_⟩
     show m.toNat - x.1 + 1 <= x.2 - x.1
     omega
   · (subst hL; subst hQ; simp only [L2, L3, std] at *; try simp only [syS, reduceCtorEq, Int.reduceToNat, Int.reduceAdd, Int.reduceSub] at *)
     obtain ⟨x1, x2, x3⟩ := hx
     clear hm
     have e : x.1 = zdb (prN p) l := by omega
     obtain ⟨k1, k2⟩ := yob hok hpo e
     refine ⟨fun h1 => ⟨⟨by omega, h1⟩, ⟨?_, hpo⟩, by rw [e]; rfl, k1 (by omega)⟩, fun h1 => ⟨by rw [e]; rfl, k2 (by omega)⟩⟩
     show zfh (za4 l x.1).p
     have hl : x.1 < l.length := by omega
     rw [zb5 hl]
     exact (hok.ok _ (List.getElem_mem hl)).1
def ycl (L : zac) : zcr := (24, fun xs => match xs with
 | [.agg [x], q] => some (L zf4 x /\ L zhb q /\ L zcd (L zaa x) /\ L zcs (L zaa x) /\ L zfh (L zas q), .tup [.int .i64 (L2 L zf7 (L zaa x) (L zas q)), .bool (L2 L zx1 (L zaa x) (L zas q))])
 | _ => none)
theorem yvt {h : Array Obj} {D : Nat -> Prop} {x y : AV} {xs : List AV} {vs : Array Value} (k : ∀ v, R h D zb0 x v -> R h D zb0 y v) (hr : RL h D zb0 (.agg [x] :: xs) vs) : RL h D zb0 (.agg [y] :: xs) vs := by
 refine ⟨hr.1, fun i z v hz hv => ?_⟩
 match i, hz with
 | 0, hz =>
   cases hz
   have r := hr.2 0 _ v rfl hv
   obtain ⟨us, rfl, o1, s1, hr'⟩ := r.inv_agg
   refine .agg _ _ s1 o1 fun j z w hz hw => ?_
   match j, hz with
   | 0, hz => cases hz; exact k w (hr' 0 x w rfl hw)
 | i + 1, hz => exact hr.2 (i + 1) z v hz hv
theorem zqi {α : Type} {V : Vw α} (K : yad V) {P : Program} {f : FuncId} {x r : AV} {xs : List AV} (ho : okW V x) (h : zae P f (.agg [zl9 std V (rdW V x)] :: xs) r) : zae P f (.agg [x] :: xs) r :=
 zjw (fun h D vs hr => yvt (fun v => ynm K ho) hr) h
theorem zp4 : zcu Tryz.prog (ycl std) := by
 intro xs p r h hp
 dsimp only [ycl] at h |-
 split at h <;> cases h
 try simp only [L2, L3, std] at hp |-
 rename_i x q
 obtain ⟨ho, ho2, hz, hok, hpo⟩ := hp
 refine zqi zch ho (zkx zh0 ho2 ?_)
 rw [zf2]
 have hz : zcd (zaa x) := hz
 have hok : zcs (zaa x) := hok
 have hpo : zfh (zas q) := hpo
 show zae _ _ (.agg [zl9 std leV (zaa x)] :: zi8 std (zas q) :: _) (.tup [.int .i64 (zf7 (zaa x) (zas q)), .bool (zx1 (zaa x) (zas q))])
 generalize zaa x = l at hz hok |-
 generalize zas q = p at hpo |-
 refine zal (T := tt) (S := fun L => zbe [yoa L]) (lo := noA) (lb := noA) 5 (fn := Tryz.f24) (xs := fun L => [.agg [zbf L l], zi8 L p]) rfl rfl (by kernel_rfl) (by kernel_rfl) rfl zah (zab ⟨yj7, trivial⟩) (by kernel_rfl) ?_
 intro L P' Q' hL hP hQ
 obtain ⟨hE, hEo, hF, hFo, hEta, hPe, hMp, hQ0, hQo, hQ1, hQ1o, hG, hGo⟩ : ze0 L := by subst hL; exact zeg
 (cbv; try simp only [syT, true_and, and_true])
 simp only [hPe, hE, hEo, hF, hFo, hEta, hMp, hQ1, hQ1o, hQ0, hQo, hG, hGo, true_and]
 subst hL; subst hQ
 exact ⟨⟨hz, hok, hpo⟩, by simp [zee, zb2, zd5, zei, zi3, std]⟩
theorem zhq : zd7 Tryz.prog (yf9 28 33 18 std) := by
 intro raw ob T h hp
 unfold yf9 at h
 simp only at h
 split at h
 rotate_left
 · cases h
 rename_i s n get
 cases hs : zay s 18 with
 | false => rw [hs] at h; cases h
 | true =>
 rw [hs] at h
 cases h
 have hp : n <= 1000000 := hp
 refine ysu (fun h0 => ?_) (fun h0 => ?_) (fun h0 => ?_)
 · refine zau (T := tt) (S := noS) (lo := noA) (lb := noA) 5 (fn := Tryz.f28) (xs := fun L => [.lst 18 n get]) (rts := fun _ => [.sl 900 18 0 n]) (O := fun L => []) (O1 := fun L => [(900, .row 33 18 n get)]) rfl rfl (by kernel_rfl) (by kernel_rfl) (by kernel_rfl) zah (zd0 _) (by kernel_rfl) ?_
   intro L P' Q' hL hP hQ
   (cbv; try simp only [syT, true_and, and_true])
   (subst hL; subst hQ; simp only [L2, L3, std] at *; try simp only [syS, reduceCtorEq, Int.reduceToNat, Int.reduceAdd, Int.reduceSub] at *)
   simp only [zck] at *
   exact ⟨h0, Nat.le_trans (Nat.mul_le_mul_right _ (show 0 + n <= 1000000 by omega)) (by decide), by omega⟩
 · refine zau (T := tt) (S := noS) (lo := noA) (lb := noA) 5 (fn := Tryz.f28) (xs := fun L => [.nils]) (rts := fun _ => [.sl 900 18 0 n]) (O := fun L => []) (O1 := fun L => [(900, .row 33 18 n get)]) rfl rfl (by kernel_rfl) (by kernel_rfl) (by kernel_rfl) zah (zd0 _) (by kernel_rfl) ?_
   intro L P' Q' hL hP hQ
   (cbv; try simp only [syT, true_and, and_true])
   (subst hL; subst hQ; simp only [L2, L3, std] at *; try simp only [syS, reduceCtorEq, Int.reduceToNat, Int.reduceAdd, Int.reduceSub] at *)
   exact ⟨by omega, by omega⟩
 · refine zau (T := tt) (S := noS) (lo := noA) (lb := noA) 5 (fn := Tryz.f28) (xs := fun L => [.emp]) (rts := fun _ => [.sl 900 18 0 n]) (O := fun L => []) (O1 := fun L => [(900, .row 33 18 n get)]) rfl rfl (by kernel_rfl) (by kernel_rfl) (by kernel_rfl) zah (zd0 _) (by kernel_rfl) ?_
   intro L P' Q' hL hP hQ
   (cbv; try simp only [syT, true_and, and_true])
   (subst hL; subst hQ; simp only [L2, L3, std] at *; try simp only [syS, reduceCtorEq, Int.reduceToNat, Int.reduceAdd, Int.reduceSub] at *)
   exact ⟨⟨by omega, by omega⟩, ⟨by omega, fun i j hi hj => by omega⟩, by omega⟩
theorem yrm : (Tryz.prog.info? 33).map (·.size) = some 18 := by kernel_rfl
theorem ztq : zd7 Tryz.prog (ycp 63) := by
 have h1 : Tryz.prog.funcs[63]? = some Tryz.f63 := rfl
 have h2 : (Tryz.f63.name == "runtime.NumGoroutine") = false := by kernel_rfl
 have h3 : Tryz.f63.body.isNone = true := by kernel_rfl
 have h4 : Extern.findNext Tryz.f63 = none := by kernel_rfl
 have h5 : Extern.find Tryz.f63 = some (Extern.SlicesOverlaps.overlaps #[23, 23] #[4]) := by kernel_rfl
 have h6 : ∀ w, (Go.sizeOf 33).run Tryz.prog w = .ok 18 w := by
   intro w
   obtain ⟨i, hi, hs⟩ := Option.map_eq_some_iff.1 yrm
   simp [Go.sizeOf, typeInfo, program, Sem.run, hi, hs]
 exact yi2 (P := Tryz.prog) (f := 63) (fn := Tryz.f63) (tS := 23) (tR := 4) (e := 33) (esz := 18) h1 h2 h3 h4 h5 Tryz.underlying23 h6
theorem yjh {n n1 k : Nat} {i : Int} {get gv : Nat -> Nat -> AV} (hn : n <= 1000000) (hi : i = k) (h1 : k <= n) (hn1 : n1 = n + 1) : zb3 Tryz.prog 46 [.sl 500000 18 0 n, .int .i64 i, .sl 500001 18 0 1] [(500000, .row 33 18 n get), (500001, .row 33 18 1 gv)] (.sl 900 18 0 n1) [(900, .row 33 18 n1 (yli get gv k))] := by
 refine zro (T := tt) (S := fun L => zbg [] [ycp 63]) (lo := noA) (lb := noA) 5 (fn := Tryz.f46) (xs := fun L => [.sl 500000 18 0 n, .int .i64 i, .sl 500001 18 0 1]) (rts := fun _ => [.sl 900 18 0 n1]) (O := fun L => [(500000, .row 33 18 n get), (500001, .row 33 18 1 gv)]) (O1 := fun L => [(900, .row 33 18 n1 (yli get gv k))]) rfl rfl (by kernel_rfl) (by kernel_rfl) (by kernel_rfl) zah (zaj trivial ⟨ztq, trivial⟩) (by kernel_rfl) ?_
 intro L P' Q' hL hP hQ
 (cbv; try simp only [syT, true_and, and_true])
 intro cap hcap
 cbv at hcap
 (cbv; try simp only [syT, true_and, and_true])
 subst hL; subst hQ
 have hcap : n <= cap := hcap
 have hs1 : ∀ (x : Nat), std Int.toNat ((x : Nat) : Int) = x := fun x => rfl
 have hi2 : i = ((k : Nat) : Int) := hi
 clear hi
 subst hi2; subst hn1
 have w1 : zbt .i64 (za6 n) (za6 1) = za6 (n + 1) := by simp only [zbt, zco, za3]; omega
 have w2 : zv3 .i64 (za6 (n + 1)) (k : Int) = za6 (n + 1 - k) := by simp only [zv3, zco, za3]; omega
 have w3 : zbt .i64 (k : Int) (za6 1) = za6 (k + 1) := by simp only [zbt, zco, za3]; omega
 simp only [L2, L3, std, w1, w2, w3] at *
 simp only [sySet, ye7, yti, ytj, yd5, ylb, yl9, yla, yhq, ylu, ykq, Int.toNat_natCast, za3, yb4, yb6, yli, ymo 18 (by decide), yss] at *
 repeat' first | refine And.intro ?_ ?_ | (intro _)
 all_goals try omega
 all_goals try contradiction
 all_goals try (rename_i q j hq hj; repeat' split)
 all_goals first | rfl | (exfalso; omega) | exact congrFun (congrArg _ (by omega)) _ | skip
theorem zzk : zd7 Tryz.prog (yws 46 33 18 std) := by
 intro raw ob T h hp
 unfold yws at h
 simp only at h
 split at h
 rotate_left
 · cases h
 rename_i a s n i b s'
 split at h
 rotate_left
 · cases h
 cases h
 obtain ⟨p1, p2, p3⟩ : yji n i := hp
 exact yjh p1 (k := i.toNat) (by omega) (by omega) rfl
theorem yk2 {n n1 k : Nat} {i j : Int} {get : Nat -> Nat -> AV} (hn : n <= 1000000) (hi : i = k) (hj : j = i + 1) (h1 : k < n) (hn1 : n1 = n - 1) : zb3 Tryz.prog 27 [.sl 500000 18 0 n, .int .i64 i, .int .i64 j] [(500000, .row 33 18 n get)] (.sl 900 18 0 n1) [(900, .row 33 18 n1 (zt5 get k))] := by
 refine zro (T := tt) (S := fun L => zbg [] []) (lo := noA) (lb := noA) 5 (fn := Tryz.f27) (xs := fun L => [.sl 500000 18 0 n, .int .i64 i, .int .i64 j]) (rts := fun _ => [.sl 900 18 0 n1]) (O := fun L => [(500000, .row 33 18 n get)]) (O1 := fun L => [(900, .row 33 18 n1 (zt5 get k))]) rfl rfl (by kernel_rfl) (by kernel_rfl) (by kernel_rfl) zah (zaj trivial trivial) (by kernel_rfl) ?_
 intro L P' Q' hL hP hQ
 (cbv; try simp only [syT, true_and, and_true])
 intro cap hcap
 cbv at hcap
 (cbv; try simp only [syT, true_and, and_true])
 subst hL; subst hQ
 have hcap : n <= cap := hcap
 have hi2 : i = ((k : Nat) : Int) := hi
 clear hi
 subst hi2; subst hj; subst hn1
 have e1 : ((k : Int) + 1).toNat = k + 1 := by omega
 simp only [L2, L3, std] at *
 simp only [sySet, ye7, yti, ytj, yd5, ylb, yl9, yla, ylu, ykq, Int.toNat_natCast, e1, za3, yb4, yb6, zt5, Bool.true_and] at *
 repeat' first | refine And.intro ?_ ?_ | (intro _)
 all_goals try omega
 all_goals try contradiction
 all_goals try (rename_i q j hq hj; repeat' split)
 all_goals first | rfl | (exfalso; omega) | exact congrFun (congrArg _ (by omega)) _ | skip
theorem zo8 : zd7 Tryz.prog (yx0 27 33 18 std) := by
 intro raw ob T h hp
 unfold yx0 at h
 simp only at h
 split at h
 rotate_left
 · cases h
 rename_i a s n i j
 split at h
 rotate_left
 · cases h
 cases h
 obtain ⟨p1, p2, p3, p4⟩ : yk3 n i j := hp
 exact yk2 p1 (k := i.toNat) (by omega) p4 (by omega) rfl
def yx6 (L : zac) : zh5 := yf9 28 33 18 L
def inLe (L : zac) : zh5 := yws 46 33 18 L
def dlLe (L : zac) : zh5 := yx0 27 33 18 L
theorem yf1 {l : List Le} {k i : Nat} (hk : k < l.length) (j : Nat) : zt5 (fun i => leC std (za4 l i)) k i j = leC std (za4 (zeh k l) i) j := by
 have e : za4 (zeh k l) i = if i < k then za4 l i else za4 l (i + 1) := by
   unfold za4 ya7 zeh
   simp only [List.getD_eq_getElem?_getD]
   by_cases h : i < k
   · rw [if_pos h, List.getElem?_append_left (by rw [List.length_take]; omega), List.getElem?_take, if_pos h]
   · rw [if_neg h, List.getElem?_append_right (by rw [List.length_take]; omega), List.length_take, List.getElem?_drop, show k + 1 + (i - min k l.length) = i + 1 by omega]
 rw [e]
 unfold zt5
 split <;> rfl
theorem ye5 {l : List Le} {e : Le} {g : Nat -> Nat -> AV} (hg : ∀ j, j < 18 -> g 0 j = leC std e j) {k i : Nat} (hk : k <= l.length) {j : Nat} (hj : j < 18) : yli (fun i => leC std (za4 l i)) g k i j = leC std (za4 (ya8 k e l) i) j := by
 have ee : za4 (ya8 k e l) i = if i < k then za4 l i else if i = k then e else za4 l (i - 1) := by
   unfold za4 ya7 ya8
   simp only [List.getD_eq_getElem?_getD]
   by_cases h : i < k
   · rw [if_pos h, List.getElem?_append_left (by rw [List.length_take]; omega), List.getElem?_take, if_pos h]
   · rw [if_neg h, List.getElem?_append_right (by rw [List.length_take]; omega), List.length_take, Nat.min_eq_left hk]
     by_cases h2 : i = k
     · rw [if_pos h2, h2, Nat.sub_self]; rfl
     · rw [if_neg h2]
       obtain ⟨r, hr⟩ : ∃ r, i - k = r + 1 := ⟨i - k - 1, by omega⟩
       rw [hr, List.getElem?_cons_succ, List.getElem?_drop, show k + r = i - 1 by omega]
 rw [ee]
 unfold yli
 split
 · rfl
 · split
   · exact hg j hj
   · rfl
theorem ydm (e : Le) {j : Nat} (hj : j < 18) : zc4 AV.dead [.int .u8 (za0 e.p 0), .int .u8 (za0 e.p 1), .int .u8 (za0 e.p 2), .int .u8 (za0 e.p 3), .int .u8 (za0 e.p 4), .int .u8 (za0 e.p 5), .int .u8 (za0 e.p 6), .int .u8 (za0 e.p 7), .int .u8 (za0 e.p 8), .int .u8 (za0 e.p 9), .int .u8 (za0 e.p 10), .int .u8 (za0 e.p 11), .int .u8 (za0 e.p 12), .int .u8 (za0 e.p 13), .int .u8 (za0 e.p 14), .int .u8 (za0 e.p 15), .int .i64 e.d, .bool e.h] j = leC std e j := by
 match j, hj with
 | 0, _ => rfl
 | 1, _ => rfl
 | 2, _ => rfl
 | 3, _ => rfl
 | 4, _ => rfl
 | 5, _ => rfl
 | 6, _ => rfl
 | 7, _ => rfl
 | 8, _ => rfl
 | 9, _ => rfl
 | 10, _ => rfl
 | 11, _ => rfl
 | 12, _ => rfl
 | 13, _ => rfl
 | 14, _ => rfl
 | 15, _ => rfl
 | 16, _ => rfl
 | 17, _ => rfl
 | j + 18, h => omega
theorem zms (l : List Le) (N : Nat) (G : Nat -> Nat -> AV) (h1 : N = l.length) (h2 : ∀ i j, i < N -> j < 18 -> G i j = leC std (za4 l i) j) : zdv (.agg [zbf std l]) (.agg [.lst 18 N G]) := by
 show zbl (.agg [.lst 18 (zg4 l) fun i => leC std (za4 l i)]) (.agg [.lst 18 N G])
 rw [zg8, zc0]
 exact ⟨⟨h1, fun i j hi hj => h2 i j (by rw [h1]; exact hi) hj⟩, trivial⟩
theorem zo3 (x y : Le) (h : y = x) : zdv (leA std x) (leA std y) := by
 subst h
 show zbl (leA std y) (leA std y)
 unfold leA
 simp only [zcz, zkc, zc0, and_self]
theorem yw0 {l : List Le} {e : Le} (hl : zcs l) (he : zg1 e) (hh : zby e.p l = true) (hk : zbk e = true) : zb1 l e = ya8 (zdb (prN e.p) l) e (zeh (zdb (prN e.p) l) l) /\ zdb (prN e.p) l < l.length := by
 obtain ⟨h, _⟩ := (zid hl he.1).1 hh
 refine ⟨?_, h⟩
 unfold zb1 zem
 rw [if_pos hk, if_pos hh]; rfl
theorem yvz {l : List Le} {e : Le} (hl : zcs l) (he : zg1 e) (hh : zby e.p l = true) (hk : zbk e = false) : zb1 l e = zeh (zdb (prN e.p) l) l /\ zdb (prN e.p) l < l.length := by
 obtain ⟨h, _⟩ := (zid hl he.1).1 hh
 refine ⟨?_, h⟩
 unfold zb1 zem
 rw [if_neg (by rw [hk]; decide), if_pos hh]; rfl
theorem yvy {l : List Le} {e : Le} (hh : zby e.p l = false) (hk : zbk e = true) : zb1 l e = ya8 (zdb (prN e.p) l) e l := by
 unfold zb1 zem
 rw [if_pos hk, if_neg (by rw [hh]; decide)]; rfl
theorem ysb {l : List Le} {e : Le} (hh : zby e.p l = false) (hk : zbk e = false) : zb1 l e = l := by
 unfold zb1 zem
 rw [if_neg (by rw [hk]; decide), if_neg (by rw [hh]; decide)]
theorem ydy {e : Le} (h : ilt 0 e.d = true) : zbk e = true := by
 rw [zc2] at h
 simp [zbk, h]
theorem ydx {e : Le} (h : e.h = true) : zbk e = true := by simp [zbk, h]
theorem zx6 {e : Le} (h : ilt 0 e.d = false) (h2 : e.h = false) : zbk e = false := by
 rw [zdw] at h
 simp [zbk, h2]; omega
theorem ykm {l : List Le} {e : Le} (hl : zcs l) (he : zg1 e) (hh : zby e.p l = true) (hk : zbk e = true) : zdv (.agg [zbf std (zb1 l e)]) (.agg [.lst 18 (zh8 l.length + 1) fun i => yli (zt5 (fun i => leC std (za4 l i)) (zf7 l e.p).toNat) (fun i j => zc4 AV.dead [.int .u8 (za0 e.p 0), .int .u8 (za0 e.p 1), .int .u8 (za0 e.p 2), .int .u8 (za0 e.p 3), .int .u8 (za0 e.p 4), .int .u8 (za0 e.p 5), .int .u8 (za0 e.p 6), .int .u8 (za0 e.p 7), .int .u8 (za0 e.p 8), .int .u8 (za0 e.p 9), .int .u8 (za0 e.p 10), .int .u8 (za0 e.p 11), .int .u8 (za0 e.p 12), .int .u8 (za0 e.p 13), .int .u8 (za0 e.p 14), .int .u8 (za0 e.p 15), .int .i64 e.d, .bool e.h] (i * 18 + j)) (zf7 l e.p).toNat (Nat.add 0 i)]) := by
 obtain ⟨e1, e2⟩ := yw0 hl he hh hk
 have hc := zg5 e2
 have hi := zlb (i := zdb (prN e.p) l) (e := e) (l := zeh (zdb (prN e.p) l) l) (by omega)
 refine zms _ _ _ (by rw [e1, hi]; unfold zh8; omega) (fun i j hi hj => ?_)
 rw [e1, show Nat.add 0 i = i from Nat.zero_add i, show (zf7 l e.p).toNat = zdb (prN e.p) l from Int.toNat_natCast _]
 rw [show zt5 (fun i => leC std (za4 l i)) (zdb (prN e.p) l) = fun i => leC std (za4 (zeh (zdb (prN e.p) l) l) i) from funext fun i => funext fun j => yf1 e2 j]
 exact ye5 (fun j hj => by rw [Nat.zero_mul, Nat.zero_add]; exact ydm e hj) (by omega) hj
theorem yr8 {l : List Le} {e : Le} (hl : zcs l) (he : zg1 e) (hh : zby e.p l = true) (hk : zbk e = false) : zdv (.agg [zbf std (zb1 l e)]) (.agg [.lst 18 (zh8 l.length) fun i => zt5 (fun i => leC std (za4 l i)) (zf7 l e.p).toNat (Nat.add 0 i)]) := by
 obtain ⟨e1, e2⟩ := yvz hl he hh hk
 have hc := zg5 e2
 refine zms _ _ _ (by rw [e1]; unfold zh8; omega) (fun i j hi hj => ?_)
 rw [e1, show Nat.add 0 i = i from Nat.zero_add i, show (zf7 l e.p).toNat = zdb (prN e.p) l from Int.toNat_natCast _]
 exact yf1 e2 j
theorem ykl {l : List Le} {e : Le} (hh : zby e.p l = false) (hk : zbk e = true) : zdv (.agg [zbf std (zb1 l e)]) (.agg [.lst 18 (l.length + 1) fun i => yli (fun i => leC std (za4 l i)) (fun i j => zc4 AV.dead [.int .u8 (za0 e.p 0), .int .u8 (za0 e.p 1), .int .u8 (za0 e.p 2), .int .u8 (za0 e.p 3), .int .u8 (za0 e.p 4), .int .u8 (za0 e.p 5), .int .u8 (za0 e.p 6), .int .u8 (za0 e.p 7), .int .u8 (za0 e.p 8), .int .u8 (za0 e.p 9), .int .u8 (za0 e.p 10), .int .u8 (za0 e.p 11), .int .u8 (za0 e.p 12), .int .u8 (za0 e.p 13), .int .u8 (za0 e.p 14), .int .u8 (za0 e.p 15), .int .i64 e.d, .bool e.h] (i * 18 + j)) (zf7 l e.p).toNat (Nat.add 0 i)]) := by
 have e1 := yvy hh hk
 have hlb := zmc (prN e.p) l
 refine zms _ _ _ (by rw [e1, zlb hlb]) (fun i j hi hj => ?_)
 rw [e1, show Nat.add 0 i = i from Nat.zero_add i, show (zf7 l e.p).toNat = zdb (prN e.p) l from Int.toNat_natCast _]
 exact ye5 (fun j hj => by rw [Nat.zero_mul, Nat.zero_add]; exact ydm e hj) hlb hj
theorem yr7 {l : List Le} {e : Le} (hh : zby e.p l = false) (hk : zbk e = false) : zdv (.agg [zbf std (zb1 l e)]) (.agg [.lst 18 l.length fun i => leC std (za4 l (Nat.add 0 i))]) := by
 refine zms _ _ _ (by rw [ysb hh hk]) (fun i j hi hj => ?_)
 rw [ysb hh hk, show Nat.add 0 i = i from Nat.zero_add i]
def zz9 (L : zac) : zcr := (29, fun xs => match xs with
 | [.agg [x], q] => some (L zf4 x /\ L zre q /\ L zcd (L zaa x) /\ L zcs (L zaa x) /\ L zg1 (L zek q), .agg [zbf L (L2 L zb1 (L zaa x) (L zek q))])
 | _ => none)
theorem zl7 : zcu Tryz.prog (zz9 std) := by
 intro xs p r h hp
 dsimp only [zz9] at h |-
 split at h <;> cases h
 try simp only [L2, L3, std] at hp |-
 rename_i x q
 obtain ⟨ho, ho2, hz, hok, hpo⟩ := hp
 refine zqi zch ho (zkx zch ho2 ?_)
 rw [zwx]
 have hz : zcd (zaa x) := hz
 have hok : zcs (zaa x) := hok
 have hpo : zg1 (zek q) := hpo
 show zae _ _ (.agg [zl9 std leV (zaa x)] :: leA std (zek q) :: _) (.agg [zbf std (zb1 (zaa x) (zek q))])
 generalize zaa x = l at hz hok |-
 generalize zek q = e at hpo |-
 refine zal (T := tt) (S := fun L => zbg [ycl L] [yx6 L, inLe L, dlLe L]) (lo := noA) (lb := noA) 5 (fn := Tryz.f29) (xs := fun L => [.agg [zbf L l], leA L e]) rfl rfl (by kernel_rfl) (by kernel_rfl) rfl zah (zaj ⟨zp4, trivial⟩ ⟨zhq, zzk, zo8, trivial⟩) (by kernel_rfl) ?_
 intro L P' Q' hL hP hQ
 obtain ⟨hE, hEo, hF, hFo, hEta, hPe, hMp, hQ0, hQo, hQ1, hQ1o, hG, hGo⟩ : ze0 L := by subst hL; exact zeg
 (cbv; try simp only [syT, true_and, and_true])
 simp only [hPe, hE, hEo, hF, hFo, hEta, hMp, hQ1, hQ1o, hQ0, hQo, hG, hGo, true_and]
 subst hL; subst hQ
 have hw : zg4 l = l.length := rfl
 have hz : l.length <= 1000000 := hz
 have hlb := zmc (prN e.p) l
 have w1 : zbt .i64 (zf7 l e.p) 1 = zf7 l e.p + 1 := by
   unfold zf7 zbt
   rw [zco]; omega
 have hdel : zby e.p l = true -> yk3 l.length (zf7 l e.p) (zbt .i64 (zf7 l e.p) 1) := fun h => by
   obtain ⟨h2, _⟩ := (zid hok hpo.1).1 h
   exact ⟨hz, Int.natCast_nonneg _, Int.ofNat_lt.2 h2, w1⟩
 have hins1 : zby e.p l = true -> yji (zh8 l.length) (zf7 l e.p) := fun h => by
   obtain ⟨h2, _⟩ := (zid hok hpo.1).1 h
   exact ⟨by unfold zh8; omega, Int.natCast_nonneg _, by unfold zf7 zh8; omega⟩
 have hins2 : yji l.length (zf7 l e.p) := ⟨hz, Int.natCast_nonneg _, by unfold zf7; omega⟩
 refine ⟨fun _ _ _ _ => trivial, hz, ⟨hz, hok, hpo.1⟩, fun hh => ⟨fun _ _ _ _ => trivial, hdel hh, fun hd => ⟨fun _ _ _ _ => trivial, fun _ _ _ _ => trivial, hins1 hh, ykm hok hpo hh (ydy hd)⟩, fun hd => ⟨fun hy => ⟨fun _ _ _ _ => trivial, fun _ _ _ _ => trivial, hins1 hh, ykm hok hpo hh (ydx hy)⟩, fun hy => yr8 hok hpo hh (zx6 hd hy)⟩⟩, fun hh => ⟨fun hd => ⟨fun _ _ _ _ => trivial, fun _ _ _ _ => trivial, hins2, ykl hh (ydy hd)⟩, fun hd => ⟨fun hy => ⟨fun _ _ _ _ => trivial, fun _ _ _ _ => trivial, hins2, ykl hh (ydx hy)⟩, fun hy => yr7 hh (zx6 hd hy)⟩⟩⟩
def yds (l : List Le) (p : Pr) : List Le := zb1 l ⟨p, 0, (zan l p).h⟩
def ydu (l : List Le) (p : Pr) : List Le := zb1 l ⟨p, 0, false⟩
def zu1 (L : zac) : zcr := (10, fun xs => match xs with
 | [.agg [x], q] => some (L zf4 x /\ L zhb q /\ L zcd (L zaa x) /\ L zcs (L zaa x) /\ L zfh (L zas q), leA L (L2 L zan (L zaa x) (L zas q)))
 | _ => none)
theorem zje : zcu Tryz.prog (zu1 std) := by
 intro xs p r h hp
 dsimp only [zu1] at h |-
 split at h <;> cases h
 try simp only [L2, L3, std] at hp |-
 rename_i x q
 obtain ⟨ho, ho2, hz, hok, hpo⟩ := hp
 refine zqi zch ho (zkx zh0 ho2 ?_)
 rw [zf2]
 have hz : zcd (zaa x) := hz
 have hok : zcs (zaa x) := hok
 have hpo : zfh (zas q) := hpo
 show zae _ _ (.agg [zl9 std leV (zaa x)] :: zi8 std (zas q) :: _) (leA std (zan (zaa x) (zas q)))
 generalize zaa x = l at hz hok |-
 generalize zas q = p at hpo |-
 refine zal (T := tt) (S := fun L => zbe [ycl L]) (lo := noA) (lb := noA) 5 (fn := Tryz.f10) (xs := fun L => [.agg [zbf L l], zi8 L p]) rfl rfl (by kernel_rfl) (by kernel_rfl) rfl zah (zab ⟨zp4, trivial⟩) (by kernel_rfl) ?_
 intro L P' Q' hL hP hQ
 obtain ⟨hE, hEo, hF, hFo, hEta, hPe, hMp, hQ0, hQo, hQ1, hQ1o, hG, hGo⟩ : ze0 L := by subst hL; exact zeg
 (cbv; try simp only [syT, true_and, and_true])
 simp only [hPe, hE, hEo, hF, hFo, hEta, hMp, hQ1, hQ1o, hQ0, hQo, hG, hGo, true_and]
 subst hL; subst hQ
 have hw : zg4 l = l.length := rfl
 have hz : l.length <= 1000000 := hz
 refine ⟨⟨hz, hok, hpo⟩, fun hh => ?_, fun hh => ?_⟩
 · obtain ⟨h, e⟩ := yp8 hok hpo hh
   refine ⟨?_, ?_⟩
   · show inR (zf7 l p) (za6 l.length) = true
     rw [zfj, za3]
     exact ⟨Int.natCast_nonneg _, Int.ofNat_lt.2 h⟩
   · refine zo3 _ _ ?_
     show za4 l (zf7 l p).toNat = zan l p
     rw [e, show (zf7 l p).toNat = zdb (prN p) l from Int.toNat_natCast _, zb5 h]
 · exact zo3 _ ⟨p, 0, false⟩ (zuf hh).symm
def yo2 (L : zac) : zcr := (11, fun xs => match xs with
 | [.agg [x], q] => some (L zf4 x /\ L zhb q /\ L zcd (L zaa x) /\ L zcs (L zaa x) /\ L zfh (L zas q), .agg [zbf L (L2 L yds (L zaa x) (L zas q))])
 | _ => none)
theorem zoy {l : List Le} {p : Pr} (hok : zcs l) (hpo : zfh p) : zg1 ⟨p, 0, (zan l p).h⟩ := ⟨hpo, Int.le_refl _, by show (0 : Int) <= 255; decide⟩
theorem yio : zcu Tryz.prog (yo2 std) := by
 intro xs p r h hp
 dsimp only [yo2] at h |-
 split at h <;> cases h
 try simp only [L2, L3, std] at hp |-
 rename_i x q
 obtain ⟨ho, ho2, hz, hok, hpo⟩ := hp
 refine zqi zch ho (zkx zh0 ho2 ?_)
 rw [zf2]
 have hz : zcd (zaa x) := hz
 have hok : zcs (zaa x) := hok
 have hpo : zfh (zas q) := hpo
 show zae _ _ (.agg [zl9 std leV (zaa x)] :: zi8 std (zas q) :: _) (.agg [zbf std (yds (zaa x) (zas q))])
 generalize zaa x = l at hz hok |-
 generalize zas q = p at hpo |-
 refine zal (T := tt) (S := fun L => zbe [zu1 L, zz9 L]) (lo := noA) (lb := noA) 5 (fn := Tryz.f11) (xs := fun L => [.agg [zbf L l], zi8 L p]) rfl rfl (by kernel_rfl) (by kernel_rfl) rfl zah (zab ⟨zje, zl7, trivial⟩) (by kernel_rfl) ?_
 intro L P' Q' hL hP hQ
 obtain ⟨hE, hEo, hF, hFo, hEta, hPe, hMp, hQ0, hQo, hQ1, hQ1o, hG, hGo⟩ : ze0 L := by subst hL; exact zeg
 (cbv; try simp only [syT, true_and, and_true])
 simp only [hPe, hE, hEo, hF, hFo, hEta, hMp, hQ1, hQ1o, hQ0, hQo, hG, hGo, true_and]
 subst hL; subst hQ
 have e : Le.mk (zan l p).p 0 (zan l p).h = ⟨p, 0, (zan l p).h⟩ := by rw [zpp]
 have hk := zoy hok hpo
 refine ⟨⟨hz, hok, hpo⟩, ⟨hz, hok, ?_⟩, ?_⟩
 · show zg1 (Le.mk (zan l p).p 0 (zan l p).h)
   rw [e]; exact hk
 · refine zms _ _ _ ?_ fun i j hi hj => ?_
   · show (zb1 l (Le.mk (zan l p).p 0 (zan l p).h)).length = _
     rw [e]; rfl
   · show leC std (za4 (zb1 l (Le.mk (zan l p).p 0 (zan l p).h)) i) j = _
     rw [e]; rfl
def yo9 (L : zac) : zcr := (12, fun xs => match xs with
 | [.agg [x], q] => some (L zf4 x /\ L zhb q /\ L zcd (L zaa x) /\ L zcs (L zaa x) /\ L zfh (L zas q), .agg [zbf L (L2 L ydu (L zaa x) (L zas q))])
 | _ => none)
theorem yj6 : zcu Tryz.prog (yo9 std) := by
 intro xs p r h hp
 dsimp only [yo9] at h |-
 split at h <;> cases h
 try simp only [L2, L3, std] at hp |-
 rename_i x q
 obtain ⟨ho, ho2, hz, hok, hpo⟩ := hp
 refine zqi zch ho (zkx zh0 ho2 ?_)
 rw [zf2]
 have hz : zcd (zaa x) := hz
 have hok : zcs (zaa x) := hok
 have hpo : zfh (zas q) := hpo
 show zae _ _ (.agg [zl9 std leV (zaa x)] :: zi8 std (zas q) :: _) (.agg [zbf std (ydu (zaa x) (zas q))])
 generalize zaa x = l at hz hok |-
 generalize zas q = p at hpo |-
 refine zal (T := tt) (S := fun L => zbe [zz9 L]) (lo := noA) (lb := noA) 5 (fn := Tryz.f12) (xs := fun L => [.agg [zbf L l], zi8 L p]) rfl rfl (by kernel_rfl) (by kernel_rfl) rfl zah (zab ⟨zl7, trivial⟩) (by kernel_rfl) ?_
 intro L P' Q' hL hP hQ
 obtain ⟨hE, hEo, hF, hFo, hEta, hPe, hMp, hQ0, hQo, hQ1, hQ1o, hG, hGo⟩ : ze0 L := by subst hL; exact zeg
 (cbv; try simp only [syT, true_and, and_true])
 simp only [hPe, hE, hEo, hF, hFo, hEta, hMp, hQ1, hQ1o, hQ0, hQo, hG, hGo, true_and]
 subst hL; subst hQ
 exact ⟨⟨hz, hok, ⟨hpo, Int.le_refl _, by show (0 : Int) <= 255; decide⟩⟩, zms _ _ _ rfl fun i j hi hj => rfl⟩
def yoc (L : zac) : zcr := (9, fun xs => match xs with
 | [.agg [x]] => some (L zf4 x /\ L zcd (L zaa x), zbf L (L zaa x))
 | _ => none)
theorem yj9 : zcu Tryz.prog (yoc std) := by
 intro xs p r h hp
 dsimp only [yoc] at h |-
 split at h <;> cases h
 try simp only [L2, L3, std] at hp |-
 rename_i x
 obtain ⟨ho, hz⟩ := hp
 refine zqi zch ho ?_
 have hz : zcd (zaa x) := hz
 show zae _ _ (.agg [zl9 std leV (zaa x)] :: _) (zbf std (zaa x))
 generalize zaa x = l at hz |-
 refine zal (T := tt) (S := fun L => zbg [] [yx6 L]) (lo := noA) (lb := noA) 5 (fn := Tryz.f9) (xs := fun L => [.agg [zbf L l]]) rfl rfl (by kernel_rfl) (by kernel_rfl) rfl zah (zaj trivial ⟨zhq, trivial⟩) (by kernel_rfl) ?_
 intro L P' Q' hL hP hQ
 (cbv; try simp only [syT, true_and, and_true])
 subst hL; subst hQ
 refine ⟨fun _ _ _ _ => trivial, hz, ?_⟩
 show zbl (.lst 18 (zg4 l) fun i => leC std (za4 l i)) (.lst 18 (zg4 l) fun i => leC std (za4 l (Nat.add 0 i)))
 rw [zmt]
 exact ⟨rfl, fun i j hi hj => by rw [show Nat.add 0 i = i from Nat.zero_add i]⟩
def yef (L : zac) : zcr := (26, fun xs => match xs with
 | [x] => some (L zre x, .bool (L not (L Le.h (L zek x))))
 | _ => none)
theorem yeg : zcu Tryz.prog (yef std) := by
 intro xs p r h hp
 dsimp only [yef] at h |-
 split at h <;> cases h
 try simp only [L2, L3, std] at hp |-
 rename_i x
 have ho : zre x := hp
 refine yxm zch ho ?_
 rw [zwx]
 show zae Tryz.prog 26 [leA std (zek x)] (.bool (!(zek x).h))
 generalize zek x = e
 refine zal (T := tt) (S := noS) (lo := noA) (lb := noA) 5 (fn := Tryz.f26) (xs := fun L => [leA L e]) rfl rfl (by kernel_rfl) (by kernel_rfl) rfl zah (zd0 _) (by kernel_rfl) ?_
 intro L P' Q' hL hP hQ
 (cbv; try simp only [syT, true_and, and_true])
 subst hL; subst hQ
 rw [zcb]; rfl
def zkm (e : Le) : Bool := !e.h
def zg7 (l : List Le) : Int := zjj zkm l
def fidA (L : zac) (l : List Le) : Nat -> St -> Option Ann := fun id st => match id with
 | 0 => some ⟨Nat, fun i => [(8, .int .i64 (L za6 i))], fun _ => [], [0, 1, 4, 7], [], fun i => L3 L zp9 zkm l i, fun i => L2 L Nat.sub (L zg4 l) i⟩
 | _ => none
def yp9 (L : zac) : zcr := (25, fun xs => match xs with
 | [x, .fn k [] []] => match zay k 26 with
   | true => some (L zf4 x /\ L zcd (L zaa x), .int .i64 (L zg7 (L zaa x)))
   | false => none
 | _ => none)
theorem yjz : zcu Tryz.prog (yp9 std) := by
 intro xs p r h hp
 unfold yp9 at h
 simp only at h
 split at h
 rotate_left
 · cases h
 rename_i x k
 cases hk : zay k 26 with
 | false => rw [hk] at h; cases h
 | true =>
 rw [hk] at h
 obtain rfl : k = 26 := of_decide_eq_true hk
 cases h
 obtain ⟨ho, hz⟩ := hp
 refine zuz zch ho ?_
 have hz : zcd (zaa x) := hz
 show zae _ _ (zl9 std leV (zaa x) :: _) (.int .i64 (zg7 (zaa x)))
 generalize zaa x = l at hz |-
 refine zal (T := tt) (S := fun L => zbe [yef L]) (lo := fun L => fidA L l) (lb := noA) 5 (fn := Tryz.f25) (xs := fun L => [zbf L l, .fn 26 [] []]) rfl rfl (by kernel_rfl) (by kernel_rfl) rfl zah (zab ⟨yeg, trivial⟩) (by kernel_rfl) ?_
 intro L P' Q' hL hP hQ
 have hw : zg4 l = l.length := rfl
 have hz : l.length <= 1000000 := hz
 obtain ⟨hE, hEo, hF, hFo, hEta, hPe, hMp, hQ0, hQo, hQ1, hQ1o, hG, hGo⟩ : ze0 L := by subst hL; exact zeg
 (cbv; try simp only [syT, true_and, and_true])
 refine ⟨⟨0, ?_⟩, fun i hi => ?_⟩
 · (cbv; try simp only [syT, true_and, and_true])
   (subst hL; subst hQ; simp only [L2, L3, std] at *; try simp only [syS, reduceCtorEq, Int.reduceToNat, Int.reduceAdd, Int.reduceSub] at *)
   exact yd1 _ _
 · have hi2 : zp9 zkm l i := by
     have h := hi
     rw [hL] at h
     exact h
   clear hi
   (cbv; try simp only [syT, true_and, and_true])
   simp only [hPe, hE, hEo, hF, hFo, hEta, hMp, hQ1, hQ1o, hQ0, hQo, hG, hGo, true_and]
   obtain ⟨i', hi'⟩ : ∃ i', i' = i + 1 := ⟨_, rfl⟩
   refine ⟨fun h1 => ⟨?_, fun h2 => ?_, fun h2 => ⟨i', ?_⟩⟩, fun h1 => ?_⟩
   all_goals try (cbv; try simp only [syT, true_and, and_true])
   all_goals subst hL; subst hQ
   · have h1 : ilt (za6 i) (za6 l.length) = true := h1
     rw [zc2, za3, za3] at h1
     show inR (za6 i) (za6 l.length) = true
     rw [zfj, za3, za3]
     omega
   · have h1 : ilt (za6 i) (za6 l.length) = true := h1
     rw [zc2, za3, za3] at h1
     have hlt : i < l.length := by omega
     have h2 : zkm (za4 l i) = true := h2
     show zdv (.int .i64 (zg7 l)) (.int .i64 (za6 i))
     rw [zes, zg7, zri (V := leV) hi2 hlt h2]; rfl
   · have h1 : ilt (za6 i) (za6 l.length) = true := h1
     rw [zc2, za3, za3] at h1
     have hlt : i < l.length := by omega
     have h2 : zkm (za4 l i) = false := h2
     subst hi'
     refine ⟨fun _ _ _ _ => trivial, ?_, znq (V := leV) hi2 hlt h2, ?_⟩
     · show zbt .i64 (za6 i) 1 = za6 (i + 1)
       unfold zbt za6
       rw [zco]; omega
     · show l.length - (i + 1) < l.length - i
       omega
   · have h1 : ilt (za6 i) (za6 l.length) = false := h1
     rw [zdw, za3, za3] at h1
     show zdv (.int .i64 (zg7 l)) (.int .i64 (-1))
     rw [zes, zg7, zrj hi2 (by omega)]
theorem zsf : ∀ l : List Le, (zg7 l < 0 ↔ ¬ firstFree l < l.length) /\ (firstFree l < l.length -> zg7 l = (firstFree l : Int))
 | [] => by simp [zg7, firstFree, zjj]
 | e :: l => by
   obtain ⟨h1, h2⟩ := zsf l
   have hx := (zu6 zkm l).1
   unfold zg7 firstFree at h1 h2 |-
   unfold zjj
   rw [List.findIdx_cons]
   cases hf : zkm e with
   | true =>
     have hf : (!e.h) = true := hf
     rw [if_pos rfl, hf]
     simp
   | false =>
     have hf : (!e.h) = false := hf
     rw [if_neg (by decide), hf, List.length_cons]
     simp only [cond_false]
     by_cases h3 : zjj zkm l < 0
     · rw [if_pos h3]
       have := h1.1 h3
       exact ⟨⟨fun _ => by omega, fun _ => by omega⟩, fun h => by omega⟩
     · rw [if_neg h3]
       have h4 : List.findIdx (fun e => !e.h) l < l.length := Classical.byContradiction fun h => h3 (h1.2 h)
       have h5 := h2 h4
       exact ⟨⟨fun _ => by omega, fun _ => by omega⟩, fun h => by omega⟩
def ldE (l : List Le) (x : Pr × Int) : Int := zcm l x.1 x.2
def ldD (l : List Le) (x : Pr × Int) : List Le := zcl l x.1 x.2
def yj2 (L : zac) : zcr := (8, fun xs => match xs with
 | [.agg [x], q, .int .i64 k] => some (L zf4 x /\ L zhb q /\ L zcd (L zaa x) /\ L zcs (L zaa x) /\ L zfh (L zas q), .tup [.agg [zbf L (L2 L ldD (L zaa x) (L2 L Prod.mk (L zas q) k))], .int .i64 (L2 L ldE (L zaa x) (L2 L Prod.mk (L zas q) k))])
 | _ => none)
theorem zq5 {l : List Le} {p : Pr} {k c : Int} (h : zcm l p k = c) (hc : c ≠ 0) : zdv (.tup [.agg [zbf std (zcl l p k)], .int .i64 (zcm l p k)]) (.tup [.agg [.nils], .int .i64 c]) := by
 have e : zcl l p k = [] := by unfold zcl; rw [if_neg (by rw [h]; exact hc)]
 rw [zee, zb2, zb2, zd5, zei, h, e]
 refine ⟨?_, rfl, trivial⟩
 show zbl (.agg [.lst 18 0 _]) (.agg [.nils])
 rw [zex, zc0]
 exact ⟨rfl, trivial⟩
theorem zq6 {l m : List Le} {p : Pr} {k : Int} (h : zcm l p k = 0) (hm : m = zcl l p k) : zdv (.tup [.agg [zbf std (zcl l p k)], .int .i64 (zcm l p k)]) (.tup [.agg [.lst 18 (zg4 m) fun i => leC std (za4 m i)], .int .i64 0]) := by
 rw [zee, zb2, zb2, zd5, zei, h, <- hm]
 exact ⟨zms _ _ _ rfl fun i j hi hj => rfl, rfl, trivial⟩
theorem yu1 {l : List Le} {i : Nat} (hi : i < l.length) : zf4 (.lst 18 (zh8 l.length) fun q => zt5 (fun q => leC std (za4 l q)) i (Nat.add 0 q)) /\ zaa (.lst 18 (zh8 l.length) fun q => zt5 (fun q => leC std (za4 l q)) i (Nat.add 0 q)) = zeh i l := by
 have hl := zg5 hi
 refine zoz zch (by unfold zh8; omega) fun q j hq hj => ?_
 rw [show Nat.add 0 q = q from Nat.zero_add q]
 exact yf1 hi j
theorem zsm {l : List Le} {p : Pr} {k : Int} (hz : l.length <= 1000000) (hok : zcs l) (hpo : zfh p) (hk : ¬ (k < 1 \/ 255 < k)) {e : Le} (he : e = yez (zan l p) k) :
   (zcd l /\ zcs l /\ zfh p) /\
     ((!zby p l) = true ->
       (ile 64 (za6 l.length) = true ->
         zcd l /\ (ilt (zg7 l) 0 = true -> zdv (.tup [.agg [zbf std (zcl l p k)], .int .i64 (zcm l p k)]) (.tup [.agg [.nils], .int .i64 17])) /\
           (ilt (zg7 l) 0 = false ->
             (∀ (i j : Nat), i < l.length -> j < 18 -> True) /\ upN l.length /\ (∀ (i j : Nat), i < l.length -> j < 18 -> True) /\ yk3 l.length (zg7 l) (zbt .i64 (zg7 l) 1) /\
               (zf4 (.lst 18 (zh8 l.length) fun i => zt5 (fun i => leC std (za4 l i)) (zg7 l).toNat (Nat.add 0 i)) /\ zcd (zaa (.lst 18 (zh8 l.length) fun i => zt5 (fun i => leC std (za4 l i)) (zg7 l).toNat (Nat.add 0 i))) /\
                 zcs (zaa (.lst 18 (zh8 l.length) fun i => zt5 (fun i => leC std (za4 l i)) (zg7 l).toNat (Nat.add 0 i))) /\ zg1 e) /\
               zdv (.tup [.agg [zbf std (zcl l p k)], .int .i64 (zcm l p k)]) (.tup [.agg [.lst 18 (zg4 (zb1 (zaa (.lst 18 (zh8 l.length) fun i => zt5 (fun i => leC std (za4 l i)) (zg7 l).toNat (Nat.add 0 i))) e))
                 fun i => leC std (za4 (zb1 (zaa (.lst 18 (zh8 l.length) fun i => zt5 (fun i => leC std (za4 l i)) (zg7 l).toNat (Nat.add 0 i))) e) i)], .int .i64 0]))) /\
       (ile 64 (za6 l.length) = false -> (zcd l /\ zcs l /\ zg1 e) /\
         zdv (.tup [.agg [zbf std (zcl l p k)], .int .i64 (zcm l p k)]) (.tup [.agg [.lst 18 (zg4 (zb1 l e)) fun i => leC std (za4 (zb1 l e) i)], .int .i64 0]))) /\
     ((!zby p l) = false -> (zcd l /\ zcs l /\ zg1 e) /\
       zdv (.tup [.agg [zbf std (zcl l p k)], .int .i64 (zcm l p k)]) (.tup [.agg [.lst 18 (zg4 (zb1 l e)) fun i => leC std (za4 (zb1 l e) i)], .int .i64 0])) := by
 subst he
 have hke := zq4 k (zjf hok hpo)
 obtain ⟨f1, f2⟩ := zsf l
 refine ⟨⟨hz, hok, hpo⟩, fun hh => ⟨fun h64 => ⟨hz, fun hf => ?_, fun hf => ?_⟩, fun h64 => ?_⟩, fun hh => ?_⟩
 · rw [yea, za3] at h64
   rw [zc2] at hf
   refine zq5 ?_ (by decide)
   unfold zcm
   rw [if_neg hk, if_pos ⟨by unfold zia; rw [hh, Bool.true_and]; exact decide_eq_true (by omega), f1.1 hf⟩]
 · rw [yea, za3] at h64
   rw [zdw] at hf
   have hlt : firstFree l < l.length := Classical.byContradiction fun h => by have := f1.2 h; omega
   have ef := f2 hlt
   have et : (zg7 l).toNat = firstFree l := by omega
   have hfull : zia l p = true := by unfold zia; rw [hh, Bool.true_and]; exact decide_eq_true (by omega)
   have hE0 : zcm l p k = 0 := by unfold zcm; rw [if_neg hk, if_neg (fun h => h.2 hlt)]
   have hl := zg5 hlt
   rw [et]
   obtain ⟨c1, c2⟩ := yu1 hlt
   rw [c2]
   refine ⟨fun _ _ _ _ => trivial, hz, fun _ _ _ _ => trivial, ⟨hz, by omega, by omega, ?_⟩, ⟨c1, (show (zeh (firstFree l) l).length <= 1000000 by omega), zlc hok, hke⟩, zq6 hE0 ?_⟩
   · unfold zbt; rw [zco]; omega
   · unfold zcl zd9
     rw [if_pos hE0, if_pos hfull]
 · rw [yjj, za3] at h64
   have hfull : ¬ zia l p = true := by unfold zia; rw [hh, Bool.true_and]; simp; omega
   have hE0 : zcm l p k = 0 := by unfold zcm; rw [if_neg hk, if_neg (fun h => hfull h.1)]
   refine ⟨⟨hz, hok, hke⟩, zq6 hE0 ?_⟩
   unfold zcl zd9
   rw [if_pos hE0, if_neg hfull]
 · have hfull : ¬ zia l p = true := by unfold zia; rw [hh, Bool.false_and]; decide
   have hE0 : zcm l p k = 0 := by unfold zcm; rw [if_neg hk, if_neg (fun h => hfull h.1)]
   refine ⟨⟨hz, hok, hke⟩, zq6 hE0 ?_⟩
   unfold zcl zd9
   rw [if_pos hE0, if_neg hfull]
theorem zwy : zcu Tryz.prog (yj2 std) := by
 intro xs p r h hp
 dsimp only [yj2] at h |-
 split at h <;> cases h
 try simp only [L2, L3, std] at hp |-
 rename_i x q k
 obtain ⟨ho, ho2, hz, hok, hpo⟩ := hp
 refine zqi zch ho (zkx zh0 ho2 ?_)
 rw [zf2]
 have hz : zcd (zaa x) := hz
 have hok : zcs (zaa x) := hok
 have hpo : zfh (zas q) := hpo
 show zae _ _ (.agg [zl9 std leV (zaa x)] :: zi8 std (zas q) :: _) (.tup [.agg [zbf std (zcl (zaa x) (zas q) k)], .int .i64 (zcm (zaa x) (zas q) k)])
 generalize zaa x = l at hz hok |-
 generalize zas q = p at hpo |-
 refine zal (T := tt) (S := fun L => zbg [zu1 L, ycl L, zz9 L, yp9 L] [yx6 L, dlLe L]) (lo := noA) (lb := noA) 5 (fn := Tryz.f8) (xs := fun L => [.agg [zbf L l], zi8 L p, .int .i64 k]) rfl rfl (by kernel_rfl) (by kernel_rfl) rfl zah (zaj ⟨zje, zp4, zl7, yjz, trivial⟩ ⟨zhq, zo8, trivial⟩) (by kernel_rfl) ?_
 intro L P' Q' hL hP hQ
 obtain ⟨hE, hEo, hF, hFo, hEta, hPe, hMp, hQ0, hQo, hQ1, hQ1o, hG, hGo⟩ : ze0 L := by subst hL; exact zeg
 (cbv; try simp only [syT, true_and, and_true])
 simp only [hPe, hE, hEo, hF, hFo, hEta, hMp, hQ1, hQ1o, hQ0, hQo, hG, hGo, true_and]
 subst hL; subst hQ
 have hz : l.length <= 1000000 := hz
 have hgk := zjf hok hpo
 have hw : zbt .i64 (zan l p).d 1 = (zan l p).d + 1 := by
   have := hgk.2
   unfold zbt
   rw [zco]; omega
 refine ⟨fun h => ?_, fun h1 => ⟨fun h => ?_, fun h2 => ⟨⟨hz, hok, hpo⟩, fun hh => ?_, fun hh => ?_⟩⟩⟩
 · have h : ilt k 1 = true := h
   rw [zc2] at h
   exact zq5 (by unfold zcm; rw [if_pos (.inl h)]) (by decide)
 · have h : ilt 255 k = true := h
   rw [zc2] at h
   exact zq5 (by unfold zcm; rw [if_pos (.inr h)]) (by decide)
 · have h1 : ilt k 1 = false := h1
   have h2 : ilt 255 k = false := h2
   rw [zdw] at h1 h2
   have hh : (zan l p).h = true := hh
   refine zsm hz hok hpo (by omega) (e := Le.mk (zan l p).p (ytd (zbt .i64 (zan l p).d 1) 255) true) ?_
   rw [hw]
   unfold yez
   rw [hh]; rfl
 · have h1 : ilt k 1 = false := h1
   have h2 : ilt 255 k = false := h2
   rw [zdw] at h1 h2
   have hh : (zan l p).h = false := hh
   refine zsm hz hok hpo (by omega) (e := Le.mk (zan l p).p (ytd (zbt .i64 (zan l p).d 1) 255) (ile k (ytd (zbt .i64 (zan l p).d 1) 255))) ?_
   rw [hw]
   unfold yez
   rw [hh]; rfl
def m32 : Int := 4294967295
def mulW (x y : Int) : Int := zlm .u64 (yac .u64 x m32) (yac .u64 y m32)
def mulT (x y : Int) : Int := zbt .u64 (zlm .u64 (zoh .u64 x 32) (yac .u64 y m32)) (zoh .u64 (mulW x y) 32)
def mulU (x y : Int) : Int := zbt .u64 (yac .u64 (mulT x y) m32) (zlm .u64 (yac .u64 x m32) (zoh .u64 y 32))
def yie (x y : Int) : Int := zbt .u64 (zbt .u64 (zlm .u64 (zoh .u64 x 32) (zoh .u64 y 32)) (zoh .u64 (mulT x y) 32)) (zoh .u64 (mulU x y) 32)
def ylc (x y : Int) : Int := zlm .u64 x y
def ynx (L : zac) : zcr := (129, fun xs => match xs with | [.int .u64 x, .int .u64 y] => some (True, .tup [.int .u64 (L2 L yie x y), .int .u64 (L2 L ylc x y)]) | _ => none)
theorem yid : zcu Tryz.prog (ynx std) := by
 intro xs p r h hp
 dsimp only [ynx] at h |-
 split at h <;> cases h
 try simp only [L2, L3, std] at hp |-
 rename_i x y
 refine zad (T := tt) (S := noS) (lo := noA) (lb := noA) 5 (fn := Tryz.f129) rfl rfl (by kernel_rfl) (by kernel_rfl) rfl zah (zd0 _) (by kernel_rfl) ?_
 intro L P' Q' hL hP hQ
 (cbv; try simp only [syT, true_and, and_true])
 subst hL; subst hQ
 refine ⟨rfl, rfl, rfl, rfl, rfl, ?_⟩
 show zdv (.tup [.int .u64 (yie x y), .int .u64 (ylc x y)]) (.tup [.int .u64 (yie x y), .int .u64 (ylc x y)])
 simp only [sySet]
 trivial
def yr1 (y p : Int) (three : Bool) : Bool := match three with
 | false => decide (p < yie y y) || (decide (yie y y = p) && decide (0 < ylc y y))
 | true => decide (ygd .u64 p 32 < zbt .u64 (zlm .u64 (yie y y) y) (yie (ylc y y) y)) || (decide (zbt .u64 (zlm .u64 (yie y y) y) (yie (ylc y y) y) = ygd .u64 p 32) && decide (0 < ylc (ylc y y) y))
def yqf (L : zac) : zcr := (123, fun xs => match xs with | [.int .u64 y, .int .u64 p, .bool t] => some (True, .bool (L3 L yr1 y p t)) | _ => none)
theorem ykg : zcu Tryz.prog (yqf std) := by
 intro xs p r h hp
 dsimp only [yqf] at h |-
 split at h <;> cases h
 try simp only [L2, L3, std] at hp |-
 rename_i y p t
 refine zad (T := tt) (S := fun L => zbe [ynx L]) (lo := noA) (lb := noA) 5 (fn := Tryz.f123) rfl rfl (by kernel_rfl) (by kernel_rfl) rfl zah (zab ⟨yid, trivial⟩) (by kernel_rfl) ?_
 (intro L P1 Q1 hL hP hQ; cbv; subst hL; simp only [L2, L3, std, syT]; subst hQ)
 cases t
 · refine ⟨trivial, fun _ => ⟨fun h => ?_, fun h => ⟨fun h2 => ?_, fun h2 => ?_⟩⟩, fun h => by cases h⟩
   all_goals simp only [zcb]
   all_goals simp_all [yr1, ilt, ieq]
 · refine ⟨trivial, fun h => (by cases h), fun _ => ⟨trivial, rfl, fun h => ?_, fun h => ⟨rfl, fun h2 => ?_, fun h2 => ?_⟩⟩⟩
   all_goals simp only [zcb]
   all_goals simp_all [yr1, ilt, ieq]
def yle (p : Int) (three : Bool) : Nat -> Int -> Int
 | 0, x => x
 | f + 1, x => yle p three f (if yr1 (bor .u64 x (2 ^ f)) p three = true then x else bor .u64 x (2 ^ f))
def yj8 (k n : Nat) : Nat := k + 0 * n
theorem zx2 (k n : Nat) : yj8 k n = k := by rw [yj8, Nat.zero_mul]; rfl
def zhh (p : Int) (three : Bool) : Int := yle p three (yj8 37 p.toNat) 0 % 4294967296
theorem zrt (p : Int) (three : Bool) : zhh p three = yle p three 37 0 % 4294967296 := by rw [zhh, zx2]
def zwp (p : Int) (three : Bool) (x : Int × Nat) : Prop := x.2 <= 36 /\ yle p three (x.2 + 1) x.1 = yle p three 37 0
def zvx (f : Nat) : Int := 2 ^ f
def lstA (L : zac) (p : Int) (t : Bool) : Nat -> St -> Option Ann := fun id st => match id with
 | 0 => some ⟨Int × Nat, fun x => [(5, .int .u64 (L Prod.fst x)), (6, .int .u64 (L zvx (L Prod.snd x)))], fun _ => [], [0, 1], [], fun x => L3 L zwp p t x, fun x => L Prod.snd x⟩
 | _ => none
theorem yck : ∀ f : _root_.Fin 37, zoh .u64 (zvx f.val) 1 = if f.val = 0 then 0 else zvx (f.val - 1) := by decide +kernel
theorem zvw (f : Nat) : 0 < zvx f := by unfold zvx; exact Int.pow_pos (by decide)
theorem zl8 {f : Nat} (h : f <= 36) : zoh .u64 (zvx f) 1 = if f = 0 then 0 else zvx (f - 1) := yck ⟨f, by omega⟩
theorem zwo {p : Int} {t : Bool} {x : Int} {f : Nat} (h : zwp p t (x, f)) (h0 : ¬ f = 0) : zwp p t ((if yr1 (bor .u64 x (zvx f)) p t = true then x else bor .u64 x (zvx f)), f - 1) := by
 obtain ⟨h1, h2⟩ := h
 refine ⟨by show f - 1 <= 36; have : f <= 36 := h1; omega, ?_⟩
 rw [<- h2]
 show yle p t (f - 1 + 1) _ = yle p t (f + 1) x
 rw [show f - 1 + 1 = f by omega]
 rfl
theorem ydi {p : Int} {t : Bool} {x : Int} {f : Nat} (h : zwp p t (x, f)) (h0 : f = 0) : (if yr1 (bor .u64 x (zvx f)) p t = true then x else bor .u64 x (zvx f)) = yle p t 37 0 := by
 obtain ⟨h1, h2⟩ := h
 subst h0
 rw [<- h2]; rfl
def zpl (L : zac) : zcr := (112, fun xs => match xs with | [.int .u64 p, .bool t] => some (True, .int .u32 (L2 L zhh p t)) | _ => none)
theorem znu : zcu Tryz.prog (zpl std) := by
 intro xs p r h hp
 dsimp only [zpl] at h |-
 split at h <;> cases h
 try simp only [L2, L3, std] at hp |-
 rename_i p t
 refine zad (T := tt) (S := fun L => zbe [yqf L]) (lo := noA) (lb := fun L => lstA L p t) 5 (fn := Tryz.f112) rfl rfl (by kernel_rfl) (by kernel_rfl) rfl zah (zab ⟨ykg, trivial⟩) (by kernel_rfl) ?_
 intro L P' Q' hL hP hQ
 (cbv; try simp only [syT, true_and, and_true])
 refine ⟨fun x hx => ?_, ⟨(0, 36), ?_⟩⟩
 · cbv at hx
   obtain ⟨y1, hy1⟩ : ∃ y : Int × Nat, y = (bor .u64 x.1 (zvx x.2), x.2 - 1) := ⟨_, rfl⟩
   obtain ⟨y2, hy2⟩ : ∃ y : Int × Nat, y = (x.1, x.2 - 1) := ⟨_, rfl⟩
   (cbv; try simp only [syT, true_and, and_true])
   refine ⟨fun h1 => ⟨?_, fun h2 => ⟨y1, ?_⟩, fun h2 => ?_⟩, fun h1 => ⟨?_, fun h2 => ⟨y2, ?_⟩, fun h2 => ?_⟩⟩
   all_goals (try (cbv; try simp only [syT, true_and, and_true]))
   all_goals (obtain ⟨x, f⟩ := x; (subst hL; subst hQ; simp only [L2, L3, std] at *; try simp only [syS, reduceCtorEq, Int.reduceToNat, Int.reduceAdd, Int.reduceSub] at *))
   · decide
   · rw [zl8 hx.1] at h2 |-
     have h0 : ¬ f = 0 := by intro h0; rw [if_pos h0] at h2; omega
     have := zwo hx h0
     rw [if_neg (by simpa using h1)] at this
     rw [if_neg h0, hy1]
     have hf : f <= 36 := hx.1
     exact ⟨rfl, rfl, this, by show f - 1 + 1 <= f; omega⟩
   · rw [zl8 hx.1] at h2
     have h0 : f = 0 := by
       by_cases h0 : f = 0
       · exact h0
       · rw [if_neg h0] at h2
         exact absurd h2 (by
           have := zvw (f - 1)
           show ¬ zvx (f - 1) <= 0
           omega)
     have := ydi hx h0
     rw [if_neg (by simpa using h1)] at this
     rw [this, zrt]
   · decide
   · rw [zl8 hx.1] at h2 |-
     have h0 : ¬ f = 0 := by intro h0; rw [if_pos h0] at h2; omega
     have := zwo hx h0
     rw [if_pos (by simpa using h1)] at this
     rw [if_neg h0, hy2]
     exact ⟨rfl, rfl, this, by show f - 1 + 1 <= f; omega⟩
   · rw [zl8 hx.1] at h2
     have h0 : f = 0 := by
       by_cases h0 : f = 0
       · exact h0
       · rw [if_neg h0] at h2
         exact absurd h2 (by
           have := zvw (f - 1)
           show ¬ zvx (f - 1) <= 0
           omega)
     have := ydi hx h0
     rw [if_pos (by simpa using h1)] at this
     rw [this, zrt]
 · (cbv; try simp only [syT, true_and, and_true])
   (subst hL; subst hQ; simp only [L2, L3, std] at *; try simp only [syS, reduceCtorEq, Int.reduceToNat, Int.reduceAdd, Int.reduceSub] at *)
   exact ⟨by decide, by decide, rfl⟩
def prF (n : Int) : Nat -> Int -> Bool
 | 0, _ => false
 | f + 1, d => if d * d <= n then (if n % d = 0 then false else prF n f (d + 1)) else decide (1 < n)
def zgz (n : Int) : Bool := prF n (yj8 38 n.toNat) 2
theorem ycf (n : Int) : prF n 38 2 = zgz n := by rw [zgz, zx2]
def yw1 (n : Int) (d : Nat) : Prop := 2 <= d /\ d <= 33 /\ prF n (40 - d) d = zgz n
def prA (L : zac) (n : Int) : Nat -> St -> Option Ann := fun id st => match id with
 | 0 => some ⟨Nat, fun d => [(3, .int .u64 (L za6 d))], fun _ => [], [0], [], fun d => L2 L yw1 n d, fun d => L (fun d : Nat => 40 - d) d⟩
 | _ => none
def ztn (L : zac) : zcr := (113, fun xs => match xs with | [.int .u64 n] => some (L (fun n : Int => 0 <= n /\ n <= 1000) n, .bool (L zgz n)) | _ => none)
theorem zyx : zcu Tryz.prog (ztn std) := by
 intro xs p r h hp
 dsimp only [ztn] at h |-
 split at h <;> cases h
 try simp only [L2, L3, std] at hp |-
 rename_i n
 have hn : 0 <= n /\ n <= 1000 := hp
 refine zad (T := tt) (S := noS) (lo := fun L => prA L n) (lb := noA) 5 (fn := Tryz.f113) rfl rfl (by kernel_rfl) (by kernel_rfl) rfl zah (zd0 _) (by kernel_rfl) ?_
 intro L P' Q' hL hP hQ
 (cbv; try simp only [syT, true_and, and_true])
 refine ⟨⟨2, ?_⟩, fun d hd => ?_⟩
 · (cbv; try simp only [syT, true_and, and_true])
   (subst hL; subst hQ; simp only [L2, L3, std] at *; try simp only [syS, reduceCtorEq, Int.reduceToNat, Int.reduceAdd, Int.reduceSub] at *)
   exact ⟨by decide, by decide, ycf n⟩
 · cbv at hd
   (cbv; try simp only [syT, true_and, and_true])
   refine ⟨fun h1 => ⟨?_, fun h2 => ?_, fun h2 => ⟨d + 1, ?_⟩⟩, fun h1 => ?_⟩
   all_goals (try (cbv; try simp only [syT, true_and, and_true]))
   all_goals (subst hL; subst hQ; simp only [L2, L3, std] at *; try simp only [syS, reduceCtorEq, Int.reduceToNat, Int.reduceAdd, Int.reduceSub] at *)
   all_goals (obtain ⟨i1, i2, i3⟩ := hd)
   all_goals (have hdd : d * d <= 33 * 33 := Nat.mul_le_mul i2 i2)
   all_goals (have hd2 : ((d : Nat) : Int) * ((d : Nat) : Int) = ((d * d : Nat) : Int) := by simp)
   all_goals (rw [show 40 - d = (39 - d) + 1 by omega, prF, hd2] at i3)
   all_goals (try rw [hd2] at h1)
   · omega
   · rw [if_pos (by omega)] at i3
     rw [Int.tmod_eq_emod_of_nonneg hn.1] at h2
     rw [if_pos h2] at i3
     exact i3
   · rw [if_pos (by omega)] at i3
     rw [Int.tmod_eq_emod_of_nonneg hn.1] at h2
     rw [if_neg h2] at i3
     have h31 : d <= 31 := by
       apply Nat.le_of_not_lt
       intro h
       have : 32 * 32 <= d * d := Nat.mul_le_mul h h
       omega
     refine ⟨by omega, ⟨by omega, by omega, ?_⟩, by omega⟩
     rw [show 40 - (d + 1) = 39 - d by omega, <- i3]
     congr 1
   · rw [if_neg (by omega)] at i3
     rw [<- i3]; rfl
def zs2 : List Int := [0x428a2f98, 0x71374491, 0xb5c0fbcf, 0xe9b5dba5, 0x3956c25b, 0x59f111f1, 0x923f82a4, 0xab1c5ed5,
 0xd807aa98, 0x12835b01, 0x243185be, 0x550c7dc3, 0x72be5d74, 0x80deb1fe, 0x9bdc06a7, 0xc19bf174,
 0xe49b69c1, 0xefbe4786, 0x0fc19dc6, 0x240ca1cc, 0x2de92c6f, 0x4a7484aa, 0x5cb0a9dc, 0x76f988da,
 0x983e5152, 0xa831c66d, 0xb00327c8, 0xbf597fc7, 0xc6e00bf3, 0xd5a79147, 0x06ca6351, 0x14292967,
 0x27b70a85, 0x2e1b2138, 0x4d2c6dfc, 0x53380d13, 0x650a7354, 0x766a0abb, 0x81c2c92e, 0x92722c85,
 0xa2bfe8a1, 0xa81a664b, 0xc24b8b70, 0xc76c51a3, 0xd192e819, 0xd6990624, 0xf40e3585, 0x106aa070,
 0x19a4c116, 0x1e376c08, 0x2748774c, 0x34b0bcb5, 0x391c0cb3, 0x4ed8aa4a, 0x5b9cca4f, 0x682e6ff3,
 0x748f82ee, 0x78a5636f, 0x84c87814, 0x8cc70208, 0x90befffa, 0xa4506ceb, 0xbef9a3f7, 0xc67178f2]
def zo5 : List Int := [0x6a09e667, 0xbb67ae85, 0x3c6ef372, 0xa54ff53a, 0x510e527f, 0x9b05688c, 0x1f83d9ab, 0x5be0cd19]
def zkp : Nat -> Nat
 | 0 => 0
 | n + 1 => if zgz n = true then zkp n + 1 else zkp n
def zen : Nat -> List Int
 | 0 => List.replicate 64 0
 | n + 1 => if zgz n = true then (zen n).set (zkp n) (zhh n true) else zen n
theorem zmi : ∀ n, (zen n).length = 64
 | 0 => by rw [zen, List.length_replicate]
 | n + 1 => by
   rw [zen]
   split
   · rw [List.length_set, zmi n]
   · exact zmi n
theorem yjc : zen 312 = zs2 := by decide +kernel
theorem cnt_311 : zkp 311 = 63 /\ zkp 312 = 64 := by decide +kernel
theorem yk8 : ∀ {m n : Nat}, m <= n -> zkp m <= zkp n := by
 intro m n h
 induction h with
 | refl => exact Nat.le_refl _
 | step h ih =>
   rename_i k
   rw [zkp]
   split <;> omega
def ylh (n : Nat) : Prop := 2 <= n /\ n <= 311 /\ zkp n <= 63
def zku (n : Nat) : Int := zkp n
def keyA (L : zac) : Nat -> St -> Option Ann := fun id st => match id with
 | 0 => some ⟨Nat, fun n => [(2, .int .u64 (L za6 n)), (3, .int .i64 (L zku n)), (1, .ref 1 0)], fun n => [(1, .row 145 1 64 (fun i _ => .int .u32 (L2 L za9 (L zen n) i)))], [0], [0], fun n => L ylh n, fun n => L (fun n : Nat => 312 - n) n⟩
 | _ => none
def zx8 (L : zac) : zcr := (96, fun xs => match xs with | [] => some (True, .arr 64 (fun j => .int .u32 (L2 L za9 zs2 j))) | _ => none)
theorem ycz {l : List Int} {k : Nat} {v : Int} (h : k < l.length) : za9 (l.set k v) k = v := by
 rw [za9, List.getD_eq_getElem?_getD, List.getElem?_set_self h]; rfl
theorem yns {l : List Int} {k i : Nat} {v : Int} (h : k ≠ i) : za9 (l.set k v) i = za9 l i := by
 rw [za9, za9, List.getD_eq_getElem?_getD, List.getD_eq_getElem?_getD, List.getElem?_set_ne h]
theorem yoh : zen 2 = List.replicate 64 0 /\ 0 = zku 2 /\ zkp 2 <= 63 := by decide +kernel
theorem ylg {n : Nat} (h : n <= 311) (hc : zkp (n + 1) < 64) : n + 1 <= 311 := by
 rcases Nat.lt_or_eq_of_le h with h | h
 · exact h
 · rw [h] at hc
   exact absurd (cnt_311.2 ▸ hc : (64 : Nat) < 64) (by decide)
theorem yt7 {n : Nat} (h : n <= 311) (hc : 64 <= zkp (n + 1)) : zen (n + 1) = zs2 := by
 rcases Nat.lt_or_eq_of_le h with h | h
 · have h2 := Nat.le_trans hc (yk8 h)
   rw [cnt_311.1] at h2
   exact absurd h2 (by decide)
 · rw [h]; exact yjc
theorem yog {n : Nat} (h : zgz n = true) : zkp (n + 1) = zkp n + 1 /\ zen (n + 1) = (zen n).set (zkp n) (zhh n true) := by
 rw [zkp, zen, if_pos h, if_pos h]; exact ⟨rfl, rfl⟩
theorem k_no {n : Nat} (h : zgz n = false) : zkp (n + 1) = zkp n /\ zen (n + 1) = zen n := by
 rw [zkp, zen, if_neg (by rw [h]; decide), if_neg (by rw [h]; decide)]; exact ⟨rfl, rfl⟩
theorem ymm {l : List Int} {k i : Nat} (v : Int) (hk : k < l.length) : over std k 0 1 [.int .u32 v] (fun i x => .int .u32 (za9 l i)) i 0 = .int .u32 (za9 (l.set k v) i) := by
 rw [zgl, if_pos ⟨Nat.le_refl _, by omega⟩]
 by_cases hi2 : i = k
 · subst hi2
   rw [za8, ycz hk]; rfl
 · rw [zar hi2, yns (fun h => hi2 h.symm)]; rfl
theorem yt6 {n i : Nat} (h : zgz n = true) (hc : zkp n < 64) : over std (zku n).toNat 0 1 [.int .u32 (zhh n true)] (fun i x => .int .u32 (za9 (zen n) i)) i 0 = .int .u32 (za9 (zen (n + 1)) i) := by
 rw [(yog h).2]
 have e : (zku n).toNat = zkp n := Int.toNat_natCast _
 rw [e]
 have hl : zkp n < (zen n).length := by rw [zmi]; exact hc
 generalize zhh n true = v
 generalize zen n = l at hl |-
 generalize zkp n = k at hl |-
 exact ymm v hl
theorem k_go {n n' : Nat} (hn : n' = n + 1) (hi : ylh n) (h1 : zgz n = true) (h2 : zku n + 1 < 64) : (∀ i, over std (zku n).toNat 0 1 [.int .u32 (zhh n true)] (fun i x => .int .u32 (za9 (zen n) i)) i 0 = .int .u32 (za9 (zen n') i)) /\ zku n + 1 = zku n' /\ ylh n' /\ 312 - n' < 312 - n := by
 subst hn
 obtain ⟨i1, i2, i3⟩ := hi
 obtain ⟨h3, -⟩ := yog h1
 have h2' : zkp n + 1 < 64 := by unfold zku at h2; omega
 have h5 := ylg i2 (by rw [h3]; omega)
 refine ⟨fun i => yt6 h1 (by omega), ?_, ⟨by omega, h5, by rw [h3]; omega⟩, by omega⟩
 unfold zku
 rw [h3]; rfl
theorem ywo {n : Nat} (hi : ylh n) (h1 : zgz n = true) (h2 : ¬ zku n + 1 < 64) (j : Nat) : over std (zku n).toNat 0 1 [.int .u32 (zhh n true)] (fun i x => .int .u32 (za9 (zen n) i)) j 0 = .int .u32 (za9 zs2 j) := by
 obtain ⟨i1, i2, i3⟩ := hi
 obtain ⟨h3, -⟩ := yog h1
 have h2' : 64 <= zkp n + 1 := by unfold zku at h2; omega
 rw [yt6 h1 (by omega), yt7 i2 (by rw [h3]; omega)]
theorem ywn {n n' : Nat} (hn : n' = n + 1) (hi : ylh n) (h1 : zgz n = false) (h2 : zku n < 64) : zen n = zen n' /\ zku n = zku n' /\ ylh n' /\ 312 - n' < 312 - n := by
 subst hn
 obtain ⟨i1, i2, i3⟩ := hi
 obtain ⟨h3, h4⟩ := k_no h1
 have h5 := ylg i2 (by rw [h3]; omega)
 refine ⟨h4.symm, ?_, ⟨by omega, h5, by rw [h3]; omega⟩, by omega⟩
 unfold zku
 rw [h3]
theorem ywm {n : Nat} (hi : ylh n) : 2 <= n /\ n <= 311 /\ 0 <= zku n /\ zku n <= 63 := by
 obtain ⟨i1, i2, i3⟩ := hi
 refine ⟨i1, i2, Int.natCast_nonneg _, ?_⟩
 unfold zku; omega
theorem ywp {n : Nat} (hn : n = 2) : (∀ i, i < 64 -> za9 (zen n) i = 0) /\ zku n = 0 /\ ylh n /\ (n : Int) = 2 := by
 subst hn
 refine ⟨fun i hi => ?_, yoh.2.1.symm, ⟨by decide, by decide, yoh.2.2⟩, rfl⟩
 rw [yoh.1, za9, List.getD_eq_getElem?_getD, List.getElem?_replicate, if_pos hi]; rfl
theorem zs1 : zcu Tryz.prog (zx8 std) := by
 intro xs p r h hp
 dsimp only [zx8] at h |-
 split at h <;> cases h
 try simp only [L2, L3, std] at hp |-
 refine zad (T := tt) (S := fun L => zbe [ztn L, zpl L]) (lo := noA) (lb := keyA) 5 (fn := Tryz.f96) rfl rfl (by kernel_rfl) (by kernel_rfl) rfl zah (zab ⟨zyx, znu, trivial⟩) (by kernel_rfl) ?_
 intro L P' Q' hL hP hQ
 obtain ⟨n0, hn0⟩ : ∃ n0 : Nat, n0 = 2 := ⟨_, rfl⟩
 (cbv; try simp only [syT, true_and, and_true])
 refine ⟨fun n hn => ?_, ⟨n0, ?_⟩⟩
 · obtain ⟨n', hn'⟩ : ∃ n' : Nat, n' = n + 1 := ⟨_, rfl⟩
   (cbv; try simp only [syT, true_and, and_true])
   refine ⟨?_, fun h1 => ⟨?_, fun h2 => ⟨n', ?_⟩, fun h2 => ?_⟩, fun h1 => ⟨fun h2 => ⟨n', ?_⟩, fun h2 => ?_⟩⟩
   all_goals (try (cbv; try simp only [syT, true_and, and_true]))
   all_goals (subst hL; subst hQ; simp only [L2, L3, std] at *; try simp only [syS, reduceCtorEq, Int.reduceToNat, Int.reduceAdd, Int.reduceSub] at *)
   all_goals (obtain ⟨r1, r2, r3, r4⟩ := ywm hn)
   · omega
   · omega
   · rw [show (zku n + 1 + 9223372036854775808) % 18446744073709551616 - 9223372036854775808 = zku n + 1 by omega] at h2 |-
     obtain ⟨e1, e2, e3, e4⟩ := k_go hn' hn h1 h2
     refine ⟨fun i j hi hj => ?_, e2, by omega, e3, by omega⟩
     have : j = 0 := by omega
     subst this
     exact e1 i
   · rw [show (zku n + 1 + 9223372036854775808) % 18446744073709551616 - 9223372036854775808 = zku n + 1 by omega] at h2
     intro j hj
     exact ywo hn h1 (by omega) j
   · obtain ⟨e1, e2, e3, e4⟩ := ywn hn' hn h1 h2
     exact ⟨fun i j hi hj => by rw [e1], e2, by omega, e3, by omega⟩
   · exfalso; omega
 · (cbv; try simp only [syT, true_and, and_true])
   (subst hL; subst hQ; simp only [L2, L3, std] at *; try simp only [syS, reduceCtorEq, Int.reduceToNat, Int.reduceAdd, Int.reduceSub] at *)
   obtain ⟨e1, e2, e3, e4⟩ := ywp hn0
   refine ⟨fun i j hi hj => ?_, e2.symm, e4.symm, e3⟩
   have : j = 0 := by omega
   subst this
   rw [e1 i hi]; rfl
end Sy
end Go.Proofs.YtlphgephdhadhaaGreat
namespace Go.Proofs.YtlphgephdhadhaaGreat
namespace Sy
open Go Go.RowKit
end Sy
end Go.Proofs.YtlphgephdhadhaaGreat
namespace Go.Proofs.YtlphgephdhadhaaGreat
namespace Sy
open Go Go.RowKit
set_option maxRecDepth 100000
set_option linter.unusedSimpArgs false
set_option linter.unusedVariables false
def ygi (a b : List UInt8) : Bool := a.take b.length == b
def ych (a b : List UInt8) : Prop := a.length <= 1000000000 /\ b.length <= 1000000000
def zvv (L : zac) : zcr := (92, fun xs => match xs with | [.str a, .str b] => some (L2 L ych a b, .bool (L2 L ygi a b)) | _ => none)
def ync (L : zac) : zcr := (82, fun xs => match xs with | [.str a, .str b] => some (L2 L ych a b, .bool (L2 L ygi a b)) | _ => none)
theorem zr5 : zcu Tryz.prog (zvv std) := by
 intro xs p r h hp
 dsimp only [zvv] at h |-
 split at h <;> cases h
 try simp only [L2, L3, std] at hp |-
 rename_i a b
 refine zad (T := tt) (S := noS) (lo := noA) (lb := noA) 5 (fn := Tryz.f92) rfl rfl (by kernel_rfl) (by kernel_rfl) rfl zah (zd0 _) (by kernel_rfl) ?_
 (intro L P1 Q1 hL hP hQ; cbv; subst hL; simp only [L2, L3, std, syT]; subst hQ)
 (simp only [syS, reduceCtorEq, Int.reduceToNat, Int.reduceAdd, Int.reduceSub])
 exact ⟨fun h => ⟨by omega, rfl⟩, fun h => by
   have : ¬ a.take b.length = b := fun e => by have := congrArg List.length e; simp at this; omega
   simp [ygi, this]⟩
theorem yi0 : zcu Tryz.prog (ync std) := by
 intro xs p r h hp
 dsimp only [ync] at h |-
 split at h <;> cases h
 try simp only [L2, L3, std] at hp |-
 rename_i a b
 refine zad (T := tt) (S := fun L => zbe [zvv L]) (lo := noA) (lb := noA) 5 (fn := Tryz.f82) rfl rfl (by kernel_rfl) (by kernel_rfl) rfl zah (zab ⟨zr5, trivial⟩) (by kernel_rfl) ?_
 (intro L P1 Q1 hL hP hQ; cbv; subst hL; simp only [L2, L3, std, syT]; subst hQ)
 (simp only [syS, reduceCtorEq, Int.reduceToNat, Int.reduceAdd, Int.reduceSub])
 exact hp
def toS : AV -> List UInt8
 | .str s => s
 | _ => []
def zfs (n : Nat) (get : Nat -> Nat -> AV) : List (List UInt8) := (List.range n).map fun i => toS (get i 0)
theorem yuh {h : Array Obj} {D : Nat -> Prop} {x y : AV} {vs : Array Value} (hr : RL h D zb0 [x, y] vs) : ∃ a b, vs = #[a, b] /\ R h D zb0 x a /\ R h D zb0 y b := by
 obtain ⟨hl, hr⟩ := hr
 obtain ⟨a, b, ha⟩ : ∃ a b, vs.toList = [a, b] := by
   have hl : vs.toList.length = 2 := by simpa using hl.symm
   match vs.toList, hl with
   | [a, b], _ => exact ⟨a, b, rfl⟩
 have : vs = #[a, b] := by rw [<- Array.toArray_toList (xs := vs), ha]
 subst this
 exact ⟨a, b, rfl, hr 0 x a rfl rfl, hr 1 y b rfl rfl⟩
def zpv (x : AV) : List UInt8 := match x with
 | .lst _ n get => (zfs n get).flatten
 | _ => []
def zhi (x : AV) : Prop := match x with
 | .lst 1 n get => (∀ i, i < n -> ∃ s, get i 0 = .str s) /\ n <= 1000000 /\ (zfs n get).flatten.length <= 1000000
 | .nils => True
 | _ => False
theorem zs4 (l : List (List UInt8)) : Lib.join l [] = l.flatten := by
 unfold Lib.join
 induction l with
 | nil => rfl
 | cons x l ih =>
   cases l with
   | nil => simp
   | cons y l => rw [List.intercalate_cons_cons, ih]; simp
def zxc (L : zac) : zcr := (94, fun xs => match xs with | [x, .str []] => some (L zhi x, .str (L zpv x)) | _ => none)
theorem zs3 : zcu Tryz.prog (zxc std) := by
 intro xs p r h hp
 dsimp only [zxc] at h |-
 split at h <;> cases h
 try simp only [L2, L3, std] at hp |-
 rename_i x
 have hp : zhi x := hp
 intro D w vs hD hxs hg
 obtain ⟨a, b, rfl, rx, ry⟩ := yuh hxs
 obtain rfl := yaw ry
 unfold zfe
 rw [zcw (fn := Tryz.f94) rfl (by kernel_rfl) rfl]
 have fin : ∀ (l : List UInt8), l = zpv x -> (∀ w', Below w.heap.size w w' -> ∃ v D', Ending.returned (.string ⟨l.toArray⟩) = .returned v /\ Below w.heap.size w w' /\ (∀ b, D b -> D' b) /\ (∀ b, D' b -> D b \/ (w.heap.size <= b /\ b < w'.heap.size)) /\ R w'.heap D' zb0 (.str (zpv x)) v) := by
   rintro l rfl w' hw
   exact ⟨_, D, rfl, hw, fun _ h => h, fun b hb => .inl hb, yav _ _ _ _⟩
 have none_ : zpv x = [] -> ∀ (a : Option Addr) (c : Nat), Calls Tryz.prog 94 #[.slice a 0 c, .string ⟨#[]⟩] w fun e w' => ∃ v D', e = .returned v /\ Below w.heap.size w w' /\ (∀ b, D b -> D' b) /\ (∀ b, D' b -> D b \/ (w.heap.size <= b /\ b < w'.heap.size)) /\ R w'.heap D' zb0 (.str (zpv x)) v := by
   intro h0 a c
   refine (Tryz.strings_Join_none a c ⟨#[]⟩ w).mono ?_
   rintro e w' ⟨rfl, rfl⟩
   exact fin [] h0.symm _ (Below.refl _ _)
 unfold zhi at hp
 split at hp
 · rename_i n get _
   obtain ⟨h1, h2, h3⟩ := hp
   cases rx with
   | lst0 => exact none_ rfl _ _
   | lst _ _ _ b o cap us hD0 hc hv h1' hr =>
     have hl : (zfs n get).length = n := by rw [zfs, List.length_map, List.length_range]
     have hq : ∀ j x, ((zfs n get).map (fun s : List UInt8 => (⟨s.toArray⟩ : ByteArray)))[j]? = some x -> w.cell? ⟨b, o + j, none⟩ = some (.string x) := by
       intro j x hj
       have hjn : j < n := by
         have := (List.getElem?_eq_some_iff.1 hj).1
         rw [List.length_map, hl] at this
         exact this
       obtain ⟨s, hs⟩ := h1 j hjn
       have r := hr j 0 hjn (by omega)
       rw [hs] at r
       have hv := hv j 0 hjn (by omega)
       rw [yaw r, Nat.mul_one, Nat.add_zero] at hv
       rw [zh2, hv]
       have e2 : (zfs n get)[j]? = some s := by rw [zfs, List.getElem?_map, List.getElem?_range hjn, Option.map_some, hs]; rfl
       rw [List.getElem?_map, e2] at hj
       cases hj
       rfl
     have hm : ((zfs n get).map (fun s : List UInt8 => (⟨s.toArray⟩ : ByteArray))).map (·.data.toList) = zfs n get := by
       rw [List.map_map]
       exact List.map_id' _
     have := Tryz.strings_Join b o cap ((zfs n get).map (fun s : List UInt8 => (⟨s.toArray⟩ : ByteArray))) ⟨#[]⟩ w hq (hD b hD0) (by rw [List.length_map, hl]; omega) (by rw [List.length_map, hl]; exact hc) (by rw [hm]; show (Lib.join _ []).length <= _; rw [zs4]; omega)
     rw [hm, List.length_map, hl] at this
     refine this.mono ?_
     rintro e w' ⟨rfl, hw⟩
     exact fin _ (by show Lib.join _ [] = _; rw [zs4]; rfl) _ hw
 · cases rx
   exact none_ rfl _ _
 · exact hp.elim
def yvw (s : List UInt8) (c : Int) : List UInt8 := (List.replicate c.toNat s).flatten
theorem yc1 (s : List UInt8) : ∀ c : Nat, Lib.repeatL s c = (List.replicate c s).flatten
 | 0 => rfl
 | c + 1 => by rw [Lib.repeatL, yc1 s c, List.replicate_succ, List.flatten_cons]
def yn3 (s : List UInt8) (c : Int) : Prop := 0 <= c /\ c <= 1000000 /\ s.length <= 1000000
def yn1 (L : zac) : zcr := (110, fun xs => match xs with | [.str s, .int .i64 c] => some (L2 L yn3 s c, .str (L2 L yvw s c)) | _ => none)
theorem yhr : zcu Tryz.prog (yn1 std) := by
 intro xs p r h hp
 dsimp only [yn1] at h |-
 split at h <;> cases h
 try simp only [L2, L3, std] at hp |-
 rename_i s c
 obtain ⟨h0, h1, h2⟩ : yn3 s c := hp
 obtain ⟨k, rfl⟩ := yd6 h0
 refine zfd (fn := Tryz.f110) rfl rfl (by kernel_rfl) (yui (zlp _) (ziy _ _)) (fun h D => yav h D _ _) (fun w => ?_)
 have hs : (⟨s.toArray⟩ : ByteArray).size = s.length := by show s.toArray.size = s.length; simp
 have := Tryz.strings_Repeat ⟨s.toArray⟩ k w (by omega) (by
   rw [hs]
   have : s.length * k <= 1000000 * 1000000 := Nat.mul_le_mul h2 (by omega)
   omega)
 refine this.mono ?_
 rintro e w' ⟨rfl, hw⟩
 refine ⟨?_, hw⟩
 show Ending.returned (.string ⟨(Lib.repeatL s k).toArray⟩) = _
 rw [yc1]; rfl
def yco (s : List UInt8) : List UInt8 := s ++ [128] ++ List.replicate ((64 - (s.length + 9) % 64) % 64) 0 ++ ycb (s.length * 8) 8
theorem yc0 (n : Nat) : (List.replicate n [(0 : UInt8)]).flatten = List.replicate n 0 := by
 induction n with
 | zero => rfl
 | succ n ih => rw [List.replicate_succ, List.flatten_cons, ih, List.replicate_succ]; rfl
theorem zly (e n : Int) (h0 : 0 <= n) (h8 : n <= 8) : (ycb e n).length = n.toNat := by
 rw [ycb, zm0]
 unfold cl8
 omega
theorem yw3 (n : Nat) (h : n <= 1000000) : ((64 - ((((n : Int) + 1 + 9223372036854775808) % 18446744073709551616 - 9223372036854775808 + 8 + 9223372036854775808) % 18446744073709551616 - 9223372036854775808).tmod 64 + 9223372036854775808) % 18446744073709551616 - 9223372036854775808).tmod 64 = (((64 - (n + 9) % 64) % 64 : Nat) : Int) := by
 have h1 : ((((n : Int) + 1 + 9223372036854775808) % 18446744073709551616 - 9223372036854775808 + 8 + 9223372036854775808) % 18446744073709551616 - 9223372036854775808) = ((n + 9 : Nat) : Int) := by omega
 rw [h1, Int.tmod_eq_emod_of_nonneg (a := ((n + 9 : Nat) : Int)) (by omega)]
 have h2 : (64 - ((n + 9 : Nat) : Int) % 64 + 9223372036854775808) % 18446744073709551616 - 9223372036854775808 = ((64 - (n + 9) % 64 : Nat) : Int) := by omega
 rw [h2, Int.tmod_eq_emod_of_nonneg (by omega)]
 omega
theorem yn2 {k : Nat} (h : k < 64) : yn3 [0] (k : Int) := ⟨Int.natCast_nonneg _, by omega, by decide⟩
theorem len8 (n : Nat) (h : n <= 1000000) : (n : Int) % 18446744073709551616 * 8 % 18446744073709551616 = (n : Int) * 8 := by omega
def zol (L : zac) : zcr := (93, fun xs => match xs with | [.str s] => some (L2 L upto 1000000 s, .str (L yco s)) | _ => none)
theorem znf : zcu Tryz.prog (zol std) := by
 intro xs p r h hp
 dsimp only [zol] at h |-
 split at h <;> cases h
 try simp only [L2, L3, std] at hp |-
 rename_i s
 refine zad (T := tt) (S := fun L => zbe [yn1 L, zyv L]) (lo := noA) (lb := noA) 5 (fn := Tryz.f93) rfl rfl (by kernel_rfl) (by kernel_rfl) rfl zah (zab ⟨yhr, zl1, trivial⟩) (by kernel_rfl) ?_
 have hl : s.length <= 1000000 := hp
 have hpn := yw3 s.length hl
 have hl8 := len8 s.length hl
 (intro L P1 Q1 hL hP hQ; cbv; subst hL; simp only [L2, L3, std, syT]; subst hQ)
 (simp only [syS, reduceCtorEq, Int.reduceToNat, Int.reduceAdd, Int.reduceSub])
 rw [hpn, hl8]
 have hz : yco s = s ++ [128] ++ List.replicate ((64 - (s.length + 9) % 64) % 64) 0 ++ ycb (s.length * 8) 8 := rfl
 rw [hz]
 have hk : (64 - (s.length + 9) % 64) % 64 < 64 := Nat.mod_lt _ (by decide)
 generalize (64 - (s.length + 9) % 64) % 64 = k at hk |-
 have hr : yvw [0] (k : Int) = List.replicate k 0 := by
   rw [yvw, Int.toNat_natCast, yc0]
 rw [hr]
 have hput := zly ((s.length : Int) * 8) 8 (by decide) (by decide)
 simp only [List.length_append, List.length_replicate, List.length_cons, List.length_nil, hput]
 refine ⟨by omega, by decide, by decide, yn2 hk, by omega, ⟨by omega, by omega, by decide, by decide⟩, by omega, trivial⟩
def yuy (s : List UInt8) : Nat := (64 - (s.length + 9) % 64) % 64
def zko (n : Nat) : List Int := zo5.take n
def frA (L : zac) : Nat -> St -> Option Ann := fun id st => match id with
 | 0 => some ⟨Nat, fun n => [(5, .int .i64 (L za6 n))], fun n => [(1, .row 143 1 8 (fun i _ => .int .u32 (L2 L za9 (L zko n) i)))], [0, 1, 4], [0], fun n => L (fun n : Nat => n <= 8) n, fun n => L (fun n : Nat => 8 - n) n⟩
 | _ => none
def w8 (g : Nat -> AV) : AV := .agg [g 0, g 1, g 2, g 3, g 4, g 5, g 6, g 7]
theorem yjx : ∀ n : _root_.Fin 8, zhh (za9 [2, 3, 5, 7, 11, 13, 17, 19] n.val) false = za9 zo5 n.val := by decide +kernel
theorem yeo {n n' i : Nat} (hn : n' = n + 1) (h : n < 8) (hi : i < 8) : over std n 0 1 [.int .u32 (zhh (za9 [2, 3, 5, 7, 11, 13, 17, 19] n) false)] (fun i x => .int .u32 (za9 (zko n) i)) i 0 = .int .u32 (za9 (zko n') i) := by
 rw [zgl, if_pos ⟨Nat.le_refl _, by omega⟩, yjx ⟨n, h⟩]
 subst hn
 have hl : zo5.length = 8 := rfl
 by_cases hi2 : i = n
 · subst hi2
   rw [za8]
   show AV.int .u32 (za9 zo5 i) = _
   rw [zko, za9, za9, List.getD_eq_getElem?_getD, List.getD_eq_getElem?_getD, List.getElem?_take_of_lt (by omega)]
 · rw [zar hi2]
   show AV.int .u32 (za9 (zko n) i) = _
   congr 1
   rw [zko, zko, za9, za9, List.getD_eq_getElem?_getD, List.getD_eq_getElem?_getD]
   by_cases hlt : i < n
   · rw [List.getElem?_take_of_lt hlt, List.getElem?_take_of_lt (by omega)]
   · rw [List.getElem?_eq_none (by rw [List.length_take]; omega), List.getElem?_eq_none (by rw [List.length_take]; omega)]
def zq0 (L : zac) : zcr := (95, fun xs => match xs with | [] => some (True, w8 fun i => .int .u32 (L2 L za9 zo5 i)) | _ => none)
theorem zo4 : zcu Tryz.prog (zq0 std) := by
 intro xs p r h hp
 dsimp only [zq0] at h |-
 split at h <;> cases h
 try simp only [L2, L3, std] at hp |-
 refine zad (T := tt) (S := fun L => zbe [zpl L]) (lo := frA) (lb := noA) 5 (fn := Tryz.f95) rfl rfl (by kernel_rfl) (by kernel_rfl) rfl zah (zab ⟨znu, trivial⟩) (by kernel_rfl) ?_
 intro L P' Q' hL hP hQ
 (cbv; try simp only [syT, true_and, and_true])
 refine ⟨⟨0, ?_⟩, fun n hn => ?_⟩
 · (cbv; try simp only [syT, true_and, and_true])
   (subst hL; subst hQ; simp only [L2, L3, std] at *; try simp only [syS, reduceCtorEq, Int.reduceToNat, Int.reduceAdd, Int.reduceSub] at *)
   exact ⟨fun i j hi hj => by
     have : j = 0 := by omega
     subst this
     simp [zko, za9]; rfl, by omega⟩
 · obtain ⟨n', hn'⟩ : ∃ n' : Nat, n' = n + 1 := ⟨_, rfl⟩
   (cbv; try simp only [syT, true_and, and_true])
   refine ⟨fun h1 => ⟨?_, ?_, n', ?_⟩, fun h1 => ?_⟩
   · (subst hL; subst hQ; simp only [L2, L3, std] at *; try simp only [syS, reduceCtorEq, Int.reduceToNat, Int.reduceAdd, Int.reduceSub] at *)
     omega
   · (subst hL; subst hQ; simp only [L2, L3, std] at *; try simp only [syS, reduceCtorEq, Int.reduceToNat, Int.reduceAdd, Int.reduceSub] at *)
     omega
   · (cbv; try simp only [syT, true_and, and_true])
     (subst hL; subst hQ; simp only [L2, L3, std] at *; try simp only [syS, reduceCtorEq, Int.reduceToNat, Int.reduceAdd, Int.reduceSub] at *)
     have h1 : n < 8 := by omega
     refine ⟨fun i j hi hj => ?_, by omega, by omega, by omega⟩
     have : j = 0 := by omega
     subst this
     exact yeo hn' h1 hi
   · unfold w8 at hQ
     (subst hL; subst hQ; simp only [L2, L3, std] at *; try simp only [syS, reduceCtorEq, Int.reduceToNat, Int.reduceAdd, Int.reduceSub] at *)
     have : n = 8 := by omega
     subst this
     exact ⟨rfl, rfl, rfl, rfl, rfl, rfl, rfl, rfl⟩
def rlS (k : Int) : Int := yac .u64 (IntKind.u64.wrap k) 31
def rlZ (x k : Int) : Int := bor .u32 (ygd .u32 x (rlS k)) (zoh .u32 x (zv3 .u64 32 (rlS k)))
def yvr (L : zac) : zcr := (124, fun xs => match xs with | [.int .u32 x, .int .i64 k] => some (True, .int .u32 (L2 L rlZ x k)) | _ => none)
theorem zig (a : Int) : 0 <= IntKind.u64.wrap a := Int.emod_nonneg _ (by decide)
theorem zyp (k : Int) : 0 <= rlS k := zig _
theorem yn0 : zcu Tryz.prog (yvr std) := by
 intro xs p r h hp
 dsimp only [yvr] at h |-
 split at h <;> cases h
 try simp only [L2, L3, std] at hp |-
 rename_i x k
 refine zad (T := tt) (S := noS) (lo := noA) (lb := noA) 5 (fn := Tryz.f124) rfl rfl (by kernel_rfl) (by kernel_rfl) rfl zah (zd0 _) (by kernel_rfl) ?_
 (intro L P1 Q1 hL hP hQ; cbv; subst hL; simp only [L2, L3, std, syT]; subst hQ)
 refine ⟨decide_eq_true (zyp k), decide_eq_true (zig _), ?_⟩
 rw [zes]
 rfl
def rotZ (x a b c : Int) (sh : Bool) : Int := yk9 .u32 (yk9 .u32 (rlZ x (zv3 .i64 0 a)) (rlZ x (zv3 .i64 0 b))) (if sh then zoh .u32 x c else rlZ x (zv3 .i64 0 c))
def yry (t : Int × Int × Int × Int × Bool) : Int := rotZ t.1 t.2.1 t.2.2.1 t.2.2.2.1 t.2.2.2.2
def ymy (L : zac) : zcr := (115, fun xs => match xs with | [.int .u32 x, .int .i64 a, .int .i64 b, .int .i64 c, .bool sh] => some (L (fun c : Int => 0 <= c) c, .int .u32 (L yry (x, a, b, c, sh))) | _ => none)
theorem yhp : zcu Tryz.prog (ymy std) := by
 intro xs p r h hp
 dsimp only [ymy] at h |-
 split at h <;> cases h
 try simp only [L2, L3, std] at hp |-
 rename_i x a b c sh
 have hc : 0 <= c := hp
 refine zad (T := tt) (S := fun L => zbe [yvr L]) (lo := noA) (lb := noA) 5 (fn := Tryz.f115) rfl rfl (by kernel_rfl) (by kernel_rfl) rfl zah (zab ⟨yn0, trivial⟩) (by kernel_rfl) ?_
 (intro L P1 Q1 hL hP hQ; cbv; subst hL; simp only [L2, L3, std, syT]; subst hQ)
 refine ⟨trivial, fun h => ⟨decide_eq_true hc, trivial, trivial, ?_⟩, fun h => ⟨trivial, trivial, ?_⟩⟩
 · rw [zes]
   subst h; rfl
 · rw [zes]
   subst h; rfl
def yah (s : List UInt8) (n : Int) : Int := IntKind.u32.wrap (getZ (yqn s (zlm .i64 4 n) (zbt .i64 (zlm .i64 4 n) 4)))
def yi9 (l : List Int) (n : Nat) : Int := zbt .u32 (zbt .u32 (zbt .u32 (za9 l (n - 16)) (yry (za9 l (n - 15), 7, 18, 3, true))) (za9 l (n - 7))) (yry (za9 l (n - 2), 17, 19, 10, true))
def wN (s : List UInt8) : Nat -> List Int
 | 0 => []
 | n + 1 => wN s n ++ [if n < 16 then yah s n else yi9 (wN s n) n]
def yax (v : List Int) (k w : Int) : Int := zbt .u32 (zbt .u32 (zbt .u32 (zbt .u32 (za9 v 7) (yry (za9 v 4, 6, 11, 25, false))) (bor .u32 (yac .u32 (za9 v 4) (za9 v 5)) (yac .u32 (yk9 .u32 4294967295 (za9 v 4)) (za9 v 6)))) k) w
def yme (v : List Int) : Int := zbt .u32 (yry (za9 v 0, 2, 13, 22, false)) (bor .u32 (yac .u32 (za9 v 0) (za9 v 1)) (yac .u32 (za9 v 2) (bor .u32 (za9 v 0) (za9 v 1))))
def yh6 (v : List Int) (k w : Int) : List Int :=
 [zbt .u32 (yax v k w) (yme v), za9 v 0, za9 v 1, za9 v 2, zbt .u32 (za9 v 3) (yax v k w), za9 v 4, za9 v 5, za9 v 6]
def vN (w h : List Int) : Nat -> List Int
 | 0 => h
 | n + 1 => yh6 (vN w h n) (za9 zs2 n) (za9 w n)
def vS (s : List UInt8) (h : List Int) (n : Nat) : List Int := vN (wN s 64) h n
def hN (h v : List Int) (n : Nat) : List Int := (List.range 8).map fun i => if i < n then zbt .u32 (za9 h i) (za9 v i) else za9 h i
def hS (s : List UInt8) (h : List Int) (n : Nat) : List Int := hN h (vS s h 64) n
def yv0 (h : List Int) (s : List UInt8) : List Int := hS s h 8
theorem yan (s : List UInt8) : ∀ n, (wN s n).length = n
 | 0 => rfl
 | n + 1 => by rw [wN, List.length_append, yan s n]; rfl
theorem yi6 {l : List Int} {v : Int} (i : Nat) : za9 (l ++ [v]) i = if i = l.length then v else za9 l i := by
 rw [za9, za9, List.getD_eq_getElem?_getD, List.getD_eq_getElem?_getD]
 by_cases h : i < l.length
 · rw [List.getElem?_append_left h, if_neg (by omega)]
 · rw [List.getElem?_append_right (by omega)]
   by_cases h2 : i = l.length
   · rw [if_pos h2, h2, Nat.sub_self]; rfl
   · rw [if_neg h2, List.getElem?_eq_none (by simp; omega), List.getElem?_eq_none (by omega)]
theorem yg3 {l : List Int} {n : Nat} (v : Int) (hl : l.length = n) (i : Nat) : over std n 0 1 [.int .u32 v] (fun i _ => .int .u32 (za9 l i)) i 0 = .int .u32 (za9 (l ++ [v]) i) := by
 rw [zgl, if_pos ⟨Nat.le_refl _, by omega⟩, yi6, hl]
 by_cases hi2 : i = n
 · rw [if_pos hi2, hi2, za8]; rfl
 · rw [if_neg hi2, zar hi2]; rfl
theorem yvf {s : List UInt8} {n n' : Nat} (h : n' = n + 1) (h2 : n < 16) : wN s n' = wN s n ++ [yah s n] := by
 subst h; rw [wN, if_pos h2]
theorem yvg {s : List UInt8} {n n' : Nat} (h : n' = n + 1) (h2 : ¬ n < 16) : wN s n' = wN s n ++ [yi9 (wN s n) n] := by
 subst h; rw [wN, if_neg h2]
def mixA (L : zac) (h : List Int) (s : List UInt8) : Nat -> St -> Option Ann := fun id st => match id with
 | 0 => some ⟨Nat, fun n => [(17, .int .i64 (L za6 n))], fun n => [(7, .row 145 1 64 (fun i _ => .int .u32 (L2 L za9 (L2 L wN s n) i)))], [1, 2, 3, 6, 7], [3, 6], fun n => L (fun n : Nat => n <= 16) n, fun n => L (fun n : Nat => 16 - n) n⟩
 | 2 => some ⟨Nat, fun n => [(11, .int .i64 (L za6 n))], fun n => [(7, .row 145 1 64 (fun i _ => .int .u32 (L2 L za9 (L2 L wN s n) i)))], [1, 2, 3, 6, 7], [3, 6], fun n => L (fun n : Nat => 16 <= n /\ n <= 64) n, fun n => L (fun n : Nat => 64 - n) n⟩
 | 4 => some ⟨Nat, fun n => [(64, .int .i64 (L za6 n))], fun n => [(12, .row 143 1 8 (fun i _ => .int .u32 (L2 L za9 (L3 L vS s h n) i)))], [1, 2, 3, 6, 7, 12], [3, 6, 7], fun n => L (fun n : Nat => n <= 64) n, fun n => L (fun n : Nat => 64 - n) n⟩
 | 6 => some ⟨Nat, fun n => [(127, .int .i64 (L za6 n))], fun n => [(3, .row 143 1 8 (fun i _ => .int .u32 (L2 L za9 (L3 L hS s h n) i)))], [3, 6, 12], [6, 12], fun n => L (fun n : Nat => n <= 8) n, fun n => L (fun n : Nat => 8 - n) n⟩
 | _ => none
def yt8 (n : Nat) (g : Nat -> AV) : Prop := n = 64 /\ ∀ j, j < 64 -> g j = .int .u32 (za9 zs2 j)
def ywd (x : List Int × List UInt8) : List Int := yv0 x.1 x.2
def w8L (L : zac) (l : List Int) : AV := .agg [.int .u32 (L2 L za9 l 0), .int .u32 (L2 L za9 l 1), .int .u32 (L2 L za9 l 2), .int .u32 (L2 L za9 l 3), .int .u32 (L2 L za9 l 4), .int .u32 (L2 L za9 l 5), .int .u32 (L2 L za9 l 6), .int .u32 (L2 L za9 l 7)]
def yif (L : zac) : zcr := (97, fun xs => match xs with
 | [.agg [.int .u32 a0, .int .u32 a1, .int .u32 a2, .int .u32 a3, .int .u32 a4, .int .u32 a5, .int .u32 a6, .int .u32 a7], .iptr n g, .str s] => some (L2 L yt8 n g /\ L (fun s : List UInt8 => s.length = 64) s, w8L L (L ywd ([a0, a1, a2, a3, a4, a5, a6, a7], s)))
 | _ => none)
theorem yvv {h : Array Obj} {D : Nat -> Prop} {μ : Mu} {a x y : AV} {r : List AV} {vs : Array Value} (e : ∀ v, R h D μ x v -> R h D μ y v) (hr : RL h D μ (a :: x :: r) vs) : RL h D μ (a :: y :: r) vs := by
 refine ⟨by rw [<- hr.1]; rfl, fun i z v hz hv => ?_⟩
 match i, hz with
 | 0, hz => exact hr.2 0 z v hz hv
 | 1, hz => cases hz; exact e v (hr.2 1 x v rfl hv)
 | i + 2, hz => exact hr.2 (i + 2) z v hz hv
theorem ykf {P : Program} {f : FuncId} {xs ys : List AV} {r : AV} (h : ∀ h D vs, RL h D zb0 xs vs -> RL h D zb0 ys vs) (ha : zae P f ys r) : zae P f xs r := fun D w vs hD hx => ha D w vs hD (h _ _ _ hx)
theorem ye4 {h : Array Obj} {D : Nat -> Prop} {μ : Mu} {n : Nat} {g g' : Nat -> AV} {v : Value} (r : R h D μ (.iptr n g) v) (e : ∀ j, j < n -> g j = g' j) : R h D μ (.iptr n g') v := by
 cases r with
 | iptr _ _ b o vs hD hv h1 hr => exact .iptr n g' b o vs hD hv h1 (fun j hj => by rw [<- e j hj]; exact hr j hj)
theorem zk5 {n n' : Nat} (h : n' = n + 1) (h2 : n < 1000) : zbt .i64 (za6 n) 1 = za6 n' := by
 subst h; unfold za6; rw [zbt, zco]; omega
theorem zpb {n k : Nat} {c : Int} (hc : c = (k : Int)) (h : k <= n) (h2 : n < 1000) : (zv3 .i64 (za6 n) c).toNat = n - k := by
 subst hc; unfold za6; rw [zv3, zco]; omega
theorem zam {n k : Nat} (h : ilt (za6 n) (za6 k) = true) : n < k := by
 have := of_decide_eq_true h
 unfold za6 at this; omega
theorem ze8 {n k : Nat} (h : ilt (za6 n) (za6 k) = false) : ¬ n < k := by
 have := of_decide_eq_false h
 unfold za6 at this; omega
theorem zed {n k : Nat} (h : n < k) : inR (za6 n) (za6 k) = true := by rw [zfj]; exact ⟨Int.natCast_nonneg _, by unfold za6; omega⟩
theorem zsb {n : Nat} (h : n < 1000) : zlm .i64 4 (za6 n) = ((4 * n : Nat) : Int) /\ zbt .i64 (zlm .i64 4 (za6 n)) 4 = ((4 * n + 4 : Nat) : Int) := by
 have e : zlm .i64 4 (za6 n) = ((4 * n : Nat) : Int) := by rw [zlm, zco, za6]; omega
 rw [e]
 refine ⟨rfl, ?_⟩
 rw [zbt, zco]; omega
theorem w_in {s : List UInt8} {n : Nat} (h : n < 16) (hs : s.length = 64) : inS (zlm .i64 4 (za6 n)) (zbt .i64 (zlm .i64 4 (za6 n)) 4) (slen s) = true := by
 obtain ⟨e1, e2⟩ := zsb (n := n) (by omega)
 rw [e2, e1, slen, hs, ytc]
 exact ⟨by omega, by omega, by omega⟩
theorem yve {s : List UInt8} {n : Nat} (h : n < 16) (hs : s.length = 64) : yjr (yqn s (zlm .i64 4 (za6 n)) (zbt .i64 (zlm .i64 4 (za6 n)) 4)) := by
 obtain ⟨e1, e2⟩ := zsb (n := n) (by omega)
 rw [e2, e1, yqn, yjr, List.length_drop, List.length_take, hs, Int.toNat_natCast, Int.toNat_natCast]
 omega
theorem zpx {n k : Nat} {c : Int} (hc : c = (k : Int)) (h : k <= n) (h2 : n < 64) : inR (zv3 .i64 (za6 n) c) (za6 64) = true := by
 subst hc
 have e : zv3 .i64 (za6 n) (k : Int) = za6 (n - k) := by unfold za6; rw [zv3, zco]; omega
 rw [e]
 exact zed (by omega)
theorem yvp {a0 a1 a2 a3 a4 a5 a6 a7 : Int} {i : Nat} {s : List UInt8} (hi : i < 8) : AV.int .u32 (za9 [za9 [a0, a1, a2, a3, a4, a5, a6, a7] 0, za9 [a0, a1, a2, a3, a4, a5, a6, a7] 1, za9 [a0, a1, a2, a3, a4, a5, a6, a7] 2, za9 [a0, a1, a2, a3, a4, a5, a6, a7] 3, za9 [a0, a1, a2, a3, a4, a5, a6, a7] 4, za9 [a0, a1, a2, a3, a4, a5, a6, a7] 5, za9 [a0, a1, a2, a3, a4, a5, a6, a7] 6, za9 [a0, a1, a2, a3, a4, a5, a6, a7] 7] i) = .int .u32 (za9 (vS s [a0, a1, a2, a3, a4, a5, a6, a7] 0) i) := rfl
theorem yh5 {v : List Int} {k w : Int} {i : Nat} (hi : i < 8) : over std 0 0 1 [.int .u32 (zbt .u32 (yax v k w) (yme v))] (over std 4 0 1 [.int .u32 (zbt .u32 (za9 v 3) (yax v k w))] (fun i _ => zi7 std (ze4 1 7 i) (.int .u32 (za9 v (0 + (i - 1)))) (.int .u32 (za9 v i)))) i 0 = .int .u32 (za9 (yh6 v k w) i) := by
 unfold yh6
 generalize yax v k w = x
 generalize yme v = y
 match i, hi with
 | 0, _ => rfl
 | 1, _ => rfl
 | 2, _ => rfl
 | 3, _ => rfl
 | 4, _ => rfl
 | 5, _ => rfl
 | 6, _ => rfl
 | 7, _ => rfl
theorem yjo {h v : List Int} {n i : Nat} (hi : i < 8) : za9 (hN h v n) i = if i < n then zbt .u32 (za9 h i) (za9 v i) else za9 h i := by
 rw [hN, za9, List.getD_eq_getElem?_getD, List.getElem?_map, List.getElem?_range hi]; rfl
theorem ytg {h v : List Int} {n n' i : Nat} (hn : n' = n + 1) (h8 : n < 8) (hi : i < 8) : over std n 0 1 [.int .u32 (zbt .u32 (za9 (hN h v n) n) (za9 v n))] (fun i _ => .int .u32 (za9 (hN h v n) i)) i 0 = .int .u32 (za9 (hN h v n') i) := by
 subst hn
 rw [zgl, if_pos ⟨Nat.le_refl _, by omega⟩, yjo hi, yjo h8, yjo hi, if_neg (Nat.lt_irrefl n)]
 by_cases hi2 : i = n
 · rw [hi2, za8, if_neg (Nat.lt_irrefl n), if_pos (Nat.lt_succ_self n)]; rfl
 · rw [zar hi2]
   by_cases hlt : i < n
   · rw [if_pos hlt, if_pos (by omega)]; rfl
   · rw [if_neg hlt, if_neg (by omega)]; rfl
theorem hN_0 {h v : List Int} {n i : Nat} (hn : n = 0) (hi : i < 8) : AV.int .u32 (za9 h i) = .int .u32 (za9 (hN h v n) i) := by
 rw [yjo hi, hn, if_neg (Nat.not_lt_zero i)]
theorem ytk (m : List Int) : zdv (w8L std m) (.agg [.int .u32 (za9 [za9 m 0, za9 m 1, za9 m 2, za9 m 3, za9 m 4, za9 m 5, za9 m 6, za9 m 7] 0), .int .u32 (za9 [za9 m 0, za9 m 1, za9 m 2, za9 m 3, za9 m 4, za9 m 5, za9 m 6, za9 m 7] 1),
   .int .u32 (za9 [za9 m 0, za9 m 1, za9 m 2, za9 m 3, za9 m 4, za9 m 5, za9 m 6, za9 m 7] 2), .int .u32 (za9 [za9 m 0, za9 m 1, za9 m 2, za9 m 3, za9 m 4, za9 m 5, za9 m 6, za9 m 7] 3), .int .u32 (za9 [za9 m 0, za9 m 1, za9 m 2, za9 m 3, za9 m 4, za9 m 5, za9 m 6, za9 m 7] 4),
   .int .u32 (za9 [za9 m 0, za9 m 1, za9 m 2, za9 m 3, za9 m 4, za9 m 5, za9 m 6, za9 m 7] 5), .int .u32 (za9 [za9 m 0, za9 m 1, za9 m 2, za9 m 3, za9 m 4, za9 m 5, za9 m 6, za9 m 7] 6), .int .u32 (za9 [za9 m 0, za9 m 1, za9 m 2, za9 m 3, za9 m 4, za9 m 5, za9 m 6, za9 m 7] 7)]) := by
 unfold w8L
 simp only [sySet, L2, std]
 exact ⟨rfl, rfl, rfl, rfl, rfl, rfl, rfl, rfl, trivial⟩
theorem zwe : zcu Tryz.prog (yif std) := by
 intro xs p r h hp
 dsimp only [yif] at h |-
 split at h <;> cases h
 try simp only [L2, L3, std] at hp |-
 rename_i a0 a1 a2 a3 a4 a5 a6 a7 n g s
 obtain ⟨⟨hn, hg⟩, hs⟩ : yt8 n g /\ s.length = 64 := hp
 subst hn
 obtain ⟨kf, hkf⟩ : ∃ kf : Nat -> Int, kf = za9 zs2 := ⟨_, rfl⟩
 obtain ⟨hl, hhl⟩ : ∃ l : List Int, l = [a0, a1, a2, a3, a4, a5, a6, a7] := ⟨_, rfl⟩
 rw [<- hkf] at hg
 refine ykf (fun h D vs hr => yvv (fun v r => ye4 r hg) hr) ?_
 rw [<- hhl]
 clear hg g
 refine zad (T := tt) (S := fun L => zbe [yp0 L, ymy L]) (lo := fun L => mixA L hl s) (lb := noA) 5 (fn := Tryz.f97) rfl rfl (by kernel_rfl) (by kernel_rfl) rfl zah (zab ⟨yjq, yhp, trivial⟩) (by kernel_rfl) ?_
 obtain ⟨n0, hn0⟩ : ∃ n : Nat, n = 0 := ⟨_, rfl⟩
 obtain ⟨n1, hn1⟩ : ∃ n : Nat, n = 16 := ⟨_, rfl⟩
 intro L P' Q' hL hP hQ
 (cbv; try simp only [syT, true_and, and_true])
 refine ⟨⟨n0, ?_⟩, fun n hn => ?_⟩
 · (cbv; try simp only [syT, true_and, and_true])
   subst hL; subst hQ
   refine ⟨fun _ _ _ _ => trivial, fun _ _ _ _ => trivial, fun i j hi hj => ?_, fun _ _ => trivial, ?_, ?_⟩
   · have : j = 0 := by omega
     subst this; subst hn0; rfl
   · subst hn0; rfl
   · subst hn0; exact Nat.zero_le _
 obtain ⟨n', hn'⟩ : ∃ n' : Nat, n' = n + 1 := ⟨_, rfl⟩
 (cbv; try simp only [syT, true_and, and_true])
 refine ⟨fun h1 => ⟨?_, ?_, ?_, n', ?_⟩, fun h1 => ⟨⟨n1, ?_⟩, fun m hm => ?_⟩⟩
 · subst hL
   exact w_in (zam h1) hs
 · subst hL
   exact yve (zam h1) hs
 · subst hL
   have h16 : n < 16 := zam h1
   exact zed (by omega)
 · (cbv; try simp only [syT, true_and, and_true])
   subst hL; subst hQ
   have h16 : n < 16 := zam h1
   refine ⟨fun _ _ _ _ => trivial, fun _ _ _ _ => trivial, fun i j hi hj => ?_, fun _ _ => trivial, ?_, ?_, ?_⟩
   · have : j = 0 := by omega
     subst this
     rw [show L2 std wN s n' = wN s n ++ [yah s n] from yvf hn' h16]
     exact yg3 _ (yan s n) i
   · exact zk5 hn' (by omega)
   · show n' <= 16
     omega
   · show 16 - n' + 1 <= 16 - n
     omega
 · (cbv; try simp only [syT, true_and, and_true])
   subst hL; subst hQ
   have h16 : n = n1 := by
     have hn : n <= 16 := hn
     have h2 : ¬ n < 16 := ze8 h1
     omega
   subst h16
   refine ⟨fun _ _ _ _ => trivial, fun _ _ _ _ => trivial, fun _ _ _ _ => rfl, fun _ _ => trivial, ?_, ?_⟩
   · subst hn1; rfl
   · subst hn1; exact ⟨Nat.le_refl _, by decide⟩
 clear h1 hn hn' n' hn0 n0
 obtain ⟨m', hm'⟩ : ∃ m' : Nat, m' = m + 1 := ⟨_, rfl⟩
 obtain ⟨k0, hk0⟩ : ∃ k : Nat, k = 0 := ⟨_, rfl⟩
 (cbv; try simp only [syT, true_and, and_true])
 refine ⟨fun h1 => ⟨?_, ?_, ?_, ?_, ?_, ?_, ?_, m', ?_⟩, fun h1 => ⟨⟨k0, ?_⟩, fun k hk => ?_⟩⟩
 · subst hL; exact zpx (k := 16) rfl (Nat.le_trans (by decide) hm.1) (zam h1)
 · subst hL; exact zpx (k := 15) rfl (Nat.le_trans (by decide) hm.1) (zam h1)
 · subst hL; show (0 : Int) <= 3; decide
 · subst hL; exact zpx (k := 7) rfl (Nat.le_trans (by decide) hm.1) (zam h1)
 · subst hL; exact zpx (k := 2) rfl (Nat.le_trans (by decide) hm.1) (zam h1)
 · subst hL; show (0 : Int) <= 10; decide
 · subst hL; exact zed (zam h1)
 · (cbv; try simp only [syT, true_and, and_true])
   subst hL; subst hQ
   have h64 : m < 64 := zam h1
   have h16 : 16 <= m := hm.1
   refine ⟨fun _ _ _ _ => trivial, fun _ _ _ _ => trivial, fun i j hi hj => ?_, fun _ _ => trivial, ?_, ?_, ?_⟩
   · have : j = 0 := by omega
     subst this
     rw [show L2 std wN s m' = wN s m ++ [yi9 (wN s m) m] from yvg hm' (by omega)]
     rw [yi9, <- zpb (n := m) (k := 16) (c := 16) rfl h16 (by omega), <- zpb (n := m) (k := 15) (c := 15) rfl (by omega) (by omega), <- zpb (n := m) (k := 7) (c := 7) rfl (by omega) (by omega), <- zpb (n := m) (k := 2) (c := 2) rfl (by omega) (by omega)]
     exact yg3 _ (yan s m) i
   · exact zk5 hm' (by omega)
   · exact ⟨by omega, by omega⟩
   · show 64 - m' + 1 <= 64 - m
     omega
 · (cbv; try simp only [syT, true_and, and_true])
   subst hL; subst hQ
   refine ⟨fun _ _ _ _ => trivial, fun _ _ _ _ => trivial, fun _ _ _ _ => trivial, fun i j hi hj => ?_, fun _ _ => trivial, ?_, ?_⟩
   · subst hk0; subst hhl
     exact yvp (s := s) hi
   · subst hk0; rfl
   · subst hk0; exact Nat.zero_le _
 have hm64 : m = 64 := by
   subst hL
   have : ¬ m < 64 := ze8 h1
   have : m <= 64 := hm.2
   omega
 subst hm64
 clear h1 hm hm' m' hk0 k0
 obtain ⟨k', hk'⟩ : ∃ k' : Nat, k' = k + 1 := ⟨_, rfl⟩
 obtain ⟨q0, hq0⟩ : ∃ q : Nat, q = 0 := ⟨_, rfl⟩
 (cbv; try simp only [syT, true_and, and_true])
 refine ⟨fun h1 => ⟨?_, ?_, ?_, ?_, ?_, ?_, ?_, ?_, ?_, ?_, ?_, ?_, ?_, ?_, ?_, ?_, ?_, ?_, ?_, ?_, ?_, ?_, k', ?_⟩, fun h1 => ⟨⟨q0, ?_⟩, fun q hq => ?_⟩⟩
 · subst hL; rfl
 · subst hL; rfl
 · subst hL; show (0 : Int) <= 25; decide
 · subst hL; rfl
 · subst hL; rfl
 · subst hL; rfl
 · subst hL; rfl
 · subst hL; exact zed (zam h1)
 · subst hL; exact zed (zam h1)
 · subst hL; rfl
 · subst hL; show (0 : Int) <= 22; decide
 · subst hL; rfl
 · subst hL; rfl
 · subst hL; rfl
 · subst hL; rfl
 · subst hL; rfl
 · subst hL; rfl
 · subst hL; rfl
 · subst hL; rfl
 · subst hL; rfl
 · subst hL; rfl
 · subst hL; rfl
 · (cbv; try simp only [syT, true_and, and_true])
   subst hL; subst hQ
   have h64 : k < 64 := zam h1
   refine ⟨fun _ _ _ _ => trivial, fun _ _ _ _ => trivial, fun _ _ _ _ => trivial, fun i j hi hj => ?_, fun _ _ => trivial, ?_, ?_, ?_⟩
   · have : j = 0 := by omega
     subst this
     have e : vS s hl k' = yh6 (vS s hl k) (kf k) (za9 (wN s 64) k) := by subst hk'; subst hkf; rfl
     have ek : (za6 k).toNat = k := Int.toNat_natCast k
     simp only [L2, L3, std, ek, e]
     clear e
     generalize vS s hl k = v
     generalize wN s 64 = w
     exact yh5 hi
   · exact zk5 hk' (by omega)
   · show k' <= 64
     omega
   · show 64 - k' + 1 <= 64 - k
     omega
 · (cbv; try simp only [syT, true_and, and_true])
   subst hL; subst hQ
   have hk64 : k = 64 := by
     have : ¬ k < 64 := ze8 h1
     have : k <= 64 := hk
     omega
   subst hk64
   refine ⟨fun _ _ _ _ => trivial, fun _ _ _ _ => trivial, fun i j hi hj => ?_, ?_, ?_⟩
   · exact hhl ▸ hN_0 hq0 hi
   · subst hq0; rfl
   · subst hq0; exact Nat.zero_le _
 have hk64 : k = 64 := by
   subst hL
   have : ¬ k < 64 := ze8 h1
   have : k <= 64 := hk
   omega
 subst hk64
 clear h1 hk hk' k' hq0 q0
 obtain ⟨q', hq'⟩ : ∃ q' : Nat, q' = q + 1 := ⟨_, rfl⟩
 (cbv; try simp only [syT, true_and, and_true])
 refine ⟨fun h1 => ⟨?_, ?_, ?_, q', ?_⟩, fun h1 => ?_⟩
 · subst hL; exact zed (zam h1)
 · subst hL; exact zed (zam h1)
 · subst hL; exact zed (zam h1)
 · (cbv; try simp only [syT, true_and, and_true])
   subst hL; subst hQ
   have h8 : q < 8 := zam h1
   refine ⟨fun _ _ _ _ => trivial, fun _ _ _ _ => trivial, fun i j hi hj => ?_, ?_, ?_, ?_⟩
   · have : j = 0 := by omega
     subst this
     have ek : (za6 q).toNat = q := Int.toNat_natCast q
     simp only [L2, L3, std, ek, hS]
     exact ytg hq' h8 hi
   · exact zk5 hq' (by omega)
   · show q' <= 8
     omega
   · show 8 - q' + 1 <= 8 - q
     omega
 · subst hL; subst hQ
   have hq8 : q = 8 := by
     have : ¬ q < 8 := ze8 h1
     have : q <= 8 := hq
     omega
   subst hq8
   rw [show ywd (hl, s) = hS s hl 8 from rfl]
   simp only [std]
   generalize hS s hl 8 = m
   exact ytk m
end Sy
end Go.Proofs.YtlphgephdhadhaaGreat
