/-Small facts on worlds, strings as lists of bytes, rows of bytes: used by every walk of this seat; no statement of the seat is proved here; and what stands between these and the texts behind.-/
import Derived.Test.YtlphgephdhadhaaGreatRows
import Derived.WalkKit
import Derived.WalkSpells
import Derived.WalkLawsBesides
import Derived.Deep.DeepCutAuto
import Derived.Deep.OwnRows
import Derived.Laws.IdiomStrings
import Derived.Lib.Hide
import Derived.Below
import Derived.ChangeSame
import Derived.ScopeJumps
import Derived.ProofKit
import Derived.OpenShut
import Derived.Carry
import Derived.Lib.SmallJoins
import Derived.RegionTactic
import Derived.BigRegion
import Derived.Test.YtlphgephdhadhaaGreatM3
import Derived.Lib.Bytealg
import Derived.ChangeArms
import Derived.ChangeSlices
import Derived.WideShapes
import Derived.Lib.Overlaps
import Derived.Lib.Builder
import Derived.Lib.BytesEntry
namespace Go.Proofs.YtlphgephdhadhaaGreat
open Go.RowKit Go.WideShapes Go.ChangeShapes Go.ChangeAt
def zl6 (b : UInt8) : Value := .int .u8 (b.toNat : Int)
def str (l : List UInt8) : Value := .string ⟨l.toArray⟩
theorem zgv (n : Nat) : zl6 (UInt8.ofNat n) = .int .u8 ((n : Int) % 256) := by
 have h : (((UInt8.ofNat n).toNat : Nat) : Int) = (n : Int) % 256 := by
   rw [UInt8.toNat_ofNat']; omega
 unfold zl6; rw [h]
@[go_sem] theorem ba_get (l : List UInt8) (k : Nat) (h : k < (⟨l.toArray⟩ : ByteArray).size) : (⟨l.toArray⟩ : ByteArray)[k] = l[k]'h := rfl
@[go_sem] theorem ba_append (a b : List UInt8) : (⟨a.toArray⟩ : ByteArray) ++ ⟨b.toArray⟩ = ⟨(a ++ b).toArray⟩ := by
 apply ByteArray.ext; simp
theorem zhr (l : List UInt8) (a b : Nat) : (⟨l.toArray⟩ : ByteArray).extract a b = ⟨((l.drop a).take (b - a)).toArray⟩ := by
 apply ByteArray.ext; simp [ByteArray.data_extract]
@[go_sem] theorem ba_extract_all (l : List UInt8) (a : Nat) : (⟨l.toArray⟩ : ByteArray).extract a l.length = ⟨(l.drop a).toArray⟩ := by
 rw [zhr, List.take_of_length_le (by simp)]
@[go_sem] theorem ba_extract_zero (l : List UInt8) (b : Nat) : (⟨l.toArray⟩ : ByteArray).extract 0 b = ⟨(l.take b).toArray⟩ := by
 rw [zhr, List.drop_zero, Nat.sub_zero]
@[go_sem] theorem wrap_byte_u64 (b : UInt8) : IntKind.u64.wrap (b.toNat : Int) = b.toNat := by
 have := b.toNat_lt; rw [IntKind.wrap_u64]; omega
@[go_sem] theorem wrap_byte_u32 (b : UInt8) : IntKind.u32.wrap (b.toNat : Int) = b.toNat := by
 have := b.toNat_lt; rw [IntKind.wrap_u32]; omega
@[go_sem] theorem wrap_byte_u16 (b : UInt8) : IntKind.u16.wrap (b.toNat : Int) = b.toNat := by
 have := b.toNat_lt; rw [IntKind.wrap_u16]; omega
@[go_sem] theorem wrap_byte_u8 (b : UInt8) : IntKind.u8.wrap (b.toNat : Int) = b.toNat := by
 have := b.toNat_lt; rw [IntKind.wrap_u8]; omega
@[go_sem] theorem wrap_byte_i64 (b : UInt8) : IntKind.i64.wrap (b.toNat : Int) = b.toNat := by
 have := b.toNat_lt; rw [IntKind.wrap_i64]; omega
theorem zhs (g j : Nat) : (⟨g, 0, none⟩ : Addr).add j = ⟨g, j, none⟩ := by
 unfold Addr.add
 split
 · rename_i h; rw [h]
 · rw [Nat.zero_add]
theorem yet {P : Program} {w : World} {src dst e : TypeId} {g n cap : Nat} {f : Nat -> Value} (l : List UInt8) (hs : P.underlying src = some (.slice e)) (he : P.underlying e = some (.int .u8)) (hd : P.underlying dst = some .string)
   (hr : w.rowIs g e n f) (hl : l.length = n) (hf : ∀ i (hi : i < l.length), f i = zl6 l[i]) :
   (convert src dst (.slice (some ⟨g, 0, none⟩) n cap)).run P w = .ok (.string ⟨l.toArray⟩) w := by
 subst hl
 refine run_convert_bytes_back w src dst e _ cap l hs he hd fun j hj => ?_
 have := hr.cell hj
 rw [hf j hj] at this
 rw [zhs]
 exact this
def Row (w : World) (b : Nat) (t : TypeId) (n : Nat) (f : Nat -> Value) : Prop :=
 ∃ (c : Array Value) (lo hi : Nat), w.heap[b]? = some (.cells c t (lo, hi)) /\ n <= c.size /\ (hi = 0 \/ n <= lo) /\ ∀ i, i < n -> c[i]? = some (f i)
section
variable {w w' : World} {b : Nat} {t : TypeId} {n : Nat} {f g : Nat -> Value}
theorem Row.cell (h : Row w b t n f) {i : Nat} (hi : i < n) : w.cell? ⟨b, i, none⟩ = some (f i) := by
 obtain ⟨c, lo, hi', hb, _, _, hc⟩ := h
 simp [World.cell?, hb, hc i hi]
theorem Row.frozen (h : Row w b t n f) {i : Nat} (hi : i < n) : w.frozen? ⟨b, i, none⟩ = false := by
 obtain ⟨c, lo, hi', hb, _, hf, _⟩ := h
 simp only [World.frozen?, hb]
 rcases hf with hf | hf
 · subst hf; simp
 · simp; omega
theorem Row.lt (h : Row w b t n f) : b < w.heap.size := by
 obtain ⟨c, lo, hi, hb, _⟩ := h
 exact (Array.getElem?_eq_some_iff.1 hb).1
theorem Row.congr (h : Row w b t n f) (e : ∀ i, i < n -> f i = g i) : Row w b t n g := by
 obtain ⟨c, lo, hi, hb, hn, hf, hc⟩ := h
 exact ⟨c, lo, hi, hb, hn, hf, fun i hi => by rw [hc i hi, e i hi]⟩
theorem Row.of_block (h : Row w b t n f) (e : w'.heap[b]? = w.heap[b]?) : Row w' b t n f := by
 obtain ⟨c, lo, hi, hb, hn, hf, hc⟩ := h
 exact ⟨c, lo, hi, e.trans hb, hn, hf, hc⟩
theorem Row.set (h : Row w b t n f) (i : Nat) (v : Value) : Row (w.setCell ⟨b, i, none⟩ v) b t n (fun j => if j = i then v else f j) := by
 obtain ⟨c, lo, hi', hb, hn, hf, hc⟩ := h
 refine ⟨c.setIfInBounds i v, lo, hi', ?_, by simpa using hn, hf, fun j hj => ?_⟩
 · simp [World.setCell, Array.getElem?_modify, hb]
 · rw [Array.getElem?_setIfInBounds]
   by_cases e : i = j
   · subst e
     have : i < c.size := by omega
     simp [this]
   · rw [if_neg e, hc j hj]
     show _ = some (if j = i then v else f j)
     rw [if_neg (fun (h : j = i) => e h.symm)]
theorem Row.alloc (h : Row w b t n f) (o : Obj) : Row (w.alloc o) b t n f := h.of_block (Below.heap_alloc _ _ _ h.lt)
theorem Row.bytes (w : World) (t : TypeId) (l : List UInt8) (cap : Nat) : Row (w.alloc (.cells (bytesRow ⟨l.toArray⟩ cap) t ((bytesRow ⟨l.toArray⟩ cap).size, (bytesRow ⟨l.toArray⟩ cap).size + 1))) w.heap.size t l.length (fun j => zl6 (l.getD j 0)) := by
 refine ⟨bytesRow ⟨l.toArray⟩ cap, _, _, heap_alloc_new _ _, by simp [bytesRow], .inr (by simp [bytesRow]), fun i hi => ?_⟩
 rw [bytesRow_at _ _ _ (by simpa using hi)]
 simp [zl6, hi]
end
def Blk (w : World) (g : Nat) (t : TypeId) (cs : Array Value) : Prop := w.heap[g]? = some (.cells cs t (0, 0))
section
variable {w w' : World} {g : Nat} {t : TypeId} {cs : Array Value}
theorem Blk.lt (h : Blk w g t cs) : g < w.heap.size := by
 rcases Nat.lt_or_ge g w.heap.size with hlt | hge
 · exact hlt
 · unfold Blk at h; rw [Array.getElem?_eq_none hge] at h; cases h
theorem Blk.cell (h : Blk w g t cs) (i : Nat) : w.cell? ⟨g, i, none⟩ = cs[i]? := cell_of_row w g i cs t (0, 0) h
theorem Blk.frozen (h : Blk w g t cs) (i : Nat) : w.frozen? ⟨g, i, none⟩ = false := by
 unfold Blk at h
 simp [World.frozen?, h]
theorem Blk.new (w : World) (t : TypeId) (cs : Array Value) : Blk (w.alloc (.cells cs t)) w.heap.size t cs := heap_alloc_new w _
theorem Blk.drew (h : Blk w g t cs) : Blk w.drew g t cs := h
theorem Blk.alloc (h : Blk w g t cs) (o : Obj) : Blk (w.alloc o) g t cs := (Below.heap_alloc w o g h.lt).trans h
theorem Blk.grown {row : Option Nat} (h : Blk w g t cs) (hb : w.grownBy w' row) (hg : some g ≠ row) : Blk w' g t cs := (hb.block g h.lt hg).trans h
end
theorem zl5 {base : Nat} {e : TypeId} {size n : Nat} {v : Value} {xs : List Value} {w w' : World} (hown : w.ownsRow base e size v n xs) (hb : base <= w.heap.size) (hg : w.grownBy w' v.ownBlock) : Below base w w' :=
 (Below.refl _ _).grown hg hb fun k hk => (hown.lt k hk).1
theorem zjp {P : Program} {ops : Array Oper} {rest : List Oper} {o : Oper} {a : Act} {Q : Exit -> Act -> World -> Prop} (wr : World) (hgd : o.guard = none) (s x : Operand) (t : TypeId)
   (ho : o.op = .call { callee := .builtin .append, args := #[s, x], argTypes := #[t, t] })
   (base : Nat) (e : TypeId) (z : Value) (bytes : Nat) (ht : P.underlying t = some (.slice e)) (hinfo : (P.info? e).map (fun i => (i.zero, i.size, i.bytes)) = some (some z, 1, bytes)) (hz1 : z.cells.size = 1)
   (v : Value) (n : Nat) (xs : List Value) (hs : a.eval s = v) (hown : wr.ownsRow base e 1 v n xs)
   (c : Value) (h1 : c.oneCell' = true) (hx : a.eval x = .slice (some ⟨wr.heap.size, 0, none⟩) 1 1)
   (hbytes : (n + 1) * bytes <= 140737488355328) (hn : n < 9223372036854775807) (hbase : base <= wr.heap.size)
   (h : ∀ v' w', w'.ownsRow base e 1 v' (n + 1) (xs ++ [c]) -> Below base wr w' -> wpList P ops Q rest (a.put o.dst v') w') : wpList P ops Q (o :: rest) a (wr.alloc (.cells #[c] e)) := by
 obtain ⟨i, hi, hzz⟩ := Option.map_eq_some_iff.1 hinfo
 simp only [Prod.mk.injEq] at hzz
 obtain ⟨hz, hsz, hby⟩ := hzz
 have hown' := hown.alloc (.cells #[c] e)
 refine wpList_append_own _ hgd s x t ho base e i z 1 bytes ht hi hz hsz hby hz1 (by decide) v n xs hs hown' ⟨wr.heap.size, 0, none⟩ 1 1 [c] hx rfl ?_ ?_ ?_ hbytes ?_ ?_
 · intro j u hj
   match j, hj with
   | 0, hj =>
     simp at hj; subst hj
     rw [zhs, cell_of_row _ _ _ _ _ _ (heap_alloc_new wr _)]; rfl
 · intro u hu
   simp at hu; subst hu; exact h1
 · unfold maxLen; omega
 · simp; omega
 · intro v' w' ho' hg _
   exact h v' w' ho' (((Below.refl _ _).alloc hbase _).trans (zl5 hown' (by simp; omega) hg))
theorem zvh {P : Program} {src dst e : TypeId} (hs : P.underlying src = some (.slice e)) (he : P.underlying e = some (.int .u8)) (hd : P.underlying dst = some .string) {w : World} {base n : Nat} {v : Value} (l : List UInt8)
   (h : w.ownsRow base e 1 v n (l.map zl6)) : (convert src dst v).run P w = .ok (.string ⟨l.toArray⟩) w := by
 rcases h.2 with ⟨rfl, rfl⟩ | ⟨g, cap, cur, rfl, _, hh, hnc, _, hsz, hx⟩
 · have hl : l = [] := by have := h.1; simpa using this
   subst hl
   rw [run_convert_bytes_string w src dst e none 0 0 hs he hd]
   simp [Conv.bytesToString]; rfl
 · have hl : l.length = n := by have := h.1; simpa using this
   subst hl
   refine run_convert_bytes_back w src dst e _ cap l hs he hd fun j hj => ?_
   have := h.cells (g := g) rfl j (zl6 l[j]) (by simp [hj])
   exact this
theorem zxl {a b : List UInt8} (h : a = b) : Ending.returned (.string ⟨a.toArray⟩) = .returned (.string ⟨b.toArray⟩) := by rw [h]
theorem zgk {P : Program} {a : Act} {w : World} {Q : Exit -> Act -> World -> Prop} {c rest : Code} (l : Nat) (J : Act -> World -> Prop) (μ : Act -> World -> Nat) (hf : findLabel c l = some (.seq .skip rest))
   (pass : ∀ a w, J a w -> rest.wp P (Exit.jump l (fun a' w' => J a' w' /\ μ a' w' < μ a w) Q) a w)
   (first : Hid (∀ a w, J a w -> rest.wp P (Exit.jump l J Q) a w) -> c.wp P (Exit.jump l J Q) a w) : (Code.scope c).wp P Q a w := by
 refine wp_scope_jumps l J μ hf (first fun a w hJ => Code.wp_mono (fun e a' w' hq => ?_) (pass a w hJ)) fun a w hJ => wp_seq (wp_skip (pass a w hJ))
 cases e <;> first | exact hq | exact ⟨hq.1, hq.2.1⟩
section
variable {l : Nat} {J : Act -> World -> Prop} {Q : Exit -> Act -> World -> Prop} {a : Act} {w : World}
@[go_sem] theorem jump_normal : Exit.jump l J Q .normal a w = Q .normal a w := rfl
@[go_sem] theorem jump_exit (id : Nat) : Exit.jump l J Q (.exit id) a w = Q (.exit id) a w := rfl
@[go_sem] theorem jump_ret : Exit.jump l J Q .ret a w = Q .ret a w := rfl
@[go_sem] theorem jump_panic (ch : List PanicEntry) : Exit.jump l J Q (.panic ch) a w = Q (.panic ch) a w := rfl
end
section
variable {H : Type} {enc : TypeId × Value -> H} {P : Program}
theorem zmv {f : Func} {s : ChangeSpec} {apart fresh handsOn again : Bool} {W W' : World} {args : Array Value} {v : Value} {ds gs : List (DataW H)} {before pa pv : List MemPlace}
   (hW : DataW.Whole enc P f.params.toList s.vars apart W args.toList ds gs before)
   (hres : ∀ (b : Nat) (sp : Nat -> Bool) (hd : Bool), DataW.TrodAll enc P W' b sp hd f.resultTypes.toList (v.resultList f.resultTypes.size) (s.fn H (ds ++ gs)).results [])
   (hargs : ∀ sp : Nat -> Bool, (∀ p ∈ before, sp p.block = true) -> DataW.TrodAll enc P W' 0 sp true f.params.toList args.toList (s.fn H (ds ++ gs)).args pa)
   (hvars : ∀ sp : Nat -> Bool, (∀ p ∈ before, sp p.block = true) -> DataW.TrodVars enc P W' sp s.vars (s.fn H (ds ++ gs)).vars pv)
   (hps : before = pa ++ pv) (hb : Below W.heap.size W W')
   (hok : ∀ (j : Nat) (t : TypeId) (r : Value), f.resultTypes[j]? = some t -> (v.resultList f.resultTypes.size)[j]? = some r -> Value.okWide P W' .any 0 t r) :
   s.post enc P f apart fresh handsOn again W args v W' := by
 have hlt : ∀ p ∈ before, p.block < W.heap.size := fun p hp => hW.lt p hp
 have hold : ∀ p ∈ before, (fun b => decide (b < W.heap.size)) p.block = true := fun p hp => by simpa using hlt p hp
 refine ⟨ds, gs, before, [], pa, pv, hW, hres _ _ _, hargs _ hold, hvars _ hold, World.keptBut_mono (fun p hp => ⟨hp, ?_⟩) (hb.frame (· ∈ before)), fun _ => ?_⟩
 · rw [hps, List.mem_append] at hp
   exact Or.inr hp
 · obtain ⟨_, _, _, _, _, hz, hn⟩ := hW
   refine ⟨hok, _, _, ([] ++ pa) ++ pv, ⟨[] ++ pa, pv, trodAll_append (hargs _ (fun _ _ => rfl)) (hres _ _ _), hvars _ (fun _ _ => rfl), rfl, ?_, ?_⟩, ?_⟩
   · intro b off hp
     have hin : MemPlace.cell b off ∈ before := by rw [hps]; simpa using hp
     rw [hb.frozen (hlt _ hin)]
     exact hz b off hin
   · intro ha
     have := hn ha
     rw [hps] at this
     simpa using this
   · intro p hp _
     rw [hps]
     simpa using hp
theorem zh0 (hl : laidOutB P = true) {W W' : World} (hb : Below W.heap.size W W') {sp : Nat -> Bool} :
   ∀ {ts : List TypeId} {vs : List Value} {ds : List (DataW H)} {ps : List MemPlace}, (∀ t ∈ ts, P.readableRec t = true /\ t < P.types.size) ->
   DataW.TrodAll enc P W 0 (fun _ => true) true ts vs ds ps -> (∀ x ∈ ps, x.block < W.heap.size) -> (∀ x ∈ ps, sp x.block = true) -> DataW.TrodAll enc P W' 0 sp true ts vs ds ps
 | [], [], [], _, _, h, _, _ => h
 | _ :: _, _ :: _, _ :: _, _, hr, ⟨p, q, h1, h2, e⟩, hlt, hs =>
   ⟨p, q, WideElems.Trod_stays hl (hr _ (List.mem_cons.2 (Or.inl rfl))).1 (hr _ (List.mem_cons.2 (Or.inl rfl))).2 h1
       (fun x hx => hb.same (hlt x (by rw [e]; exact List.mem_append_left _ hx))) (fun x hx => hs x (by rw [e]; exact List.mem_append_left _ hx)),
     zh0 hl hb (fun t ht => hr t (List.mem_cons.2 (Or.inr ht))) h2 (fun x hx => hlt x (by rw [e]; exact List.mem_append_right _ hx)) (fun x hx => hs x (by rw [e]; exact List.mem_append_right _ hx)), e⟩
theorem post_law {f : Func} {s : ChangeSpec} {apart fresh handsOn again : Bool} {W W' : World} {args : Array Value} {ds : List (DataW H)} {before : List MemPlace} {tb : TypeId}
   (hl : laidOutB P = true) (hr : (f.params.toList.all fun t => P.readableRec t && decide (t < P.types.size)) = true) (hbt : f.resultTypes = #[tb]) (hub : P.underlying tb = some .bool) (hsv : s.vars = [])
   (hW : DataW.Whole enc P f.params.toList s.vars apart W args.toList ds [] before)
   (hfn : s.fn H (ds ++ []) = { results := [.lit (.bool true)], args := ds }) (hb : Below W.heap.size W W') :
   s.post enc P f apart fresh handsOn again W args (.bool true) W' := by
 have hlt : ∀ p ∈ before, p.block < W.heap.size := fun p hp => hW.lt p hp
 obtain ⟨p, q, hA, hV, hpq, _, _⟩ := id hW
 rw [hsv] at hV
 have hq : q = [] := hV
 subst hq
 rw [List.append_nil] at hpq
 subst hpq
 refine zmv (pa := before) (pv := []) hW ?_ ?_ ?_ (by simp) hb ?_
 · intro _ _ _
   rw [hfn, hbt]
   exact trodAll_mk1 (shut_bool hub true)
 · intro sp hsp
   rw [hfn]
   exact zh0 hl hb (fun t ht => by simpa using List.all_eq_true.1 hr t ht) hA hlt hsp
 · intro sp _
   rw [hfn, hsv]
   rfl
 · exact ok_one hbt rfl (okWide_bool_mk hub true)
end
end Go.Proofs.YtlphgephdhadhaaGreat
namespace Go.Proofs.YtlphgephdhadhaaGreat
open Go.RowKit
theorem i5 : (Tryz.prog.info? 5).map (fun i => (i.zero, i.size, i.bytes)) = some (some (.int .u8 0), 1, 1) := by kernel_rfl
def cl8 (k : Int) : Nat := (min (max k 0) 8).toNat
def zxx (n : Nat) : Nat -> List UInt8
 | 0 => []
 | i+1 => UInt8.ofNat (n / 256^i) :: zxx n i
theorem ync (k : Int) : cl8 k <= 8 := by unfold cl8; omega
theorem zk2 (n c : Nat) : (zxx n c).length = c := by induction c <;> simp_all [zxx]
theorem ycu (n c t : Nat) (h : t < (zxx n c).length) : (zxx n c)[t] = UInt8.ofNat (n / 256 ^ (c - 1 - t)) := by
 induction c generalizing t with
 | zero => simp [zxx] at h
 | succ c ih =>
   rcases t with _ | t
   · simp [zxx]
   · simp only [zxx, List.getElem_cons_succ]
     rw [ih]
     congr 3; omega
set_option maxRecDepth 100000 in
set_option maxHeartbeats 400000 in
theorem yhr (n : Nat) (k : Int) (w : World) (_hn : n < 18446744073709551616) :
   Calls Tryz.prog 79 #[.int .u64 n, .int .i64 k] w fun e w' => e = .returned (.string ⟨(zxx n (cl8 k)).toArray⟩) /\ Below w.heap.size w w' := by
 have h8 := ync k
 have hmk := fun W => run_make_row' (P := Tryz.prog) 79 5 (.int .u8 0) 1 Tryz.underlying79 i5 rfl .i64 .i64 (cl8 k) (by omega) (by omega) W
 go_enter Tryz.func79, Tryz.ntmps79
 go_upto_region 1 with (fail)
 go_cut [1] (fun v wx => v = .int .i64 (cl8 k) /\ w = wx)
 case first =>
   go_wp2
   all_goals (go_meet; exact ⟨by unfold cl8; go_num, rfl⟩)
 case rest =>
   obtain ⟨rfl, rfl⟩ := hcut
   generalize hc : cl8 k = c at *
   have Hc := Lib.hid hc
   clear hc
   go_wp2
   go_loopw [0, 6] (fun m i wr => ∃ j x : Nat, j <= c /\ i = .int .i64 ((j : Int) - 1) /\ m = .int .u64 (x : Int) /\ Hid (x = n / 256 ^ (c - j)) /\
      wr.rowIs w.heap.size 5 c (fun t => if t < j then .int .u8 0 else zl6 (UInt8.ofNat (n / 256 ^ (c - 1 - t)))) /\ Below w.heap.size w wr) (fun _ i _ => (intOf i + 1).toNat)
   case atStart =>
     refine ⟨c, n, by omega, by simp, by simp, Lib.hid (by simp), ?_, ?_⟩
     · exact (World.rowIs_made w (.int .u8 0) c 5).congr (fun i hi => by simp [hi])
     · exact (Below.refl _ _).alloc (Nat.le_refl _) _
   case round =>
     obtain ⟨j, x, hj, rfl, rfl, hx, hrow, hb⟩ := hrel
     rcases j with _ | j
     · have hconv := fun cc => yet (P := Tryz.prog) (src := 79) (dst := 9) (cap := cc) (zxx n c) Tryz.underlying79 Tryz.underlying5 Tryz.underlying9 hrow (zk2 n c) (fun i hi => by simp [ycu])
       go_wp2
       go_ret
       exact ⟨zxl (by rw [Hc.out]), hb⟩
     · have hc := hrow.cell (i := j) (by omega)
       have hf := hrow.frozen j
       have hs := hrow.set j (.int .u8 ((x : Int) % 256))
       have hB := hb.setCell (p := ⟨w.heap.size, j, none⟩) (Nat.le_refl _) (.int .u8 ((x : Int) % 256))
       have h0 : ((j + 1 : Nat) : Int) - 1 = j := by omega
       rw [h0]
       simp only [Nat.lt_succ_self, if_true] at hc
       clear hrow hb h0
       go_wp2
       go_roundw
       case rel =>
         refine ⟨j, x / 256, by omega, rfl, rfl, Lib.hid ?_, hs.congr fun t ht => ?_, hB⟩
         · rw [hx.out, Nat.div_div_eq_div_mul, <- Nat.pow_succ]; congr 2; omega
         · by_cases h1 : t = j
           · subst h1; rw [if_pos rfl, if_neg (by omega), zgv, hx.out, show c - (t + 1) = c - 1 - t by omega]
           · rw [if_neg h1]
             by_cases h2 : t < j
             · rw [if_pos h2, if_pos (by omega)]
             · rw [if_neg h2, if_neg (by omega)]
       case measure => simp [intOf] <;> omega
def zw1 (l : List UInt8) : Nat := l.foldl (fun n b => n * 256 + b.toNat) 0
theorem zpf (l : List UInt8) (b : UInt8) : zw1 (l ++ [b]) = zw1 l * 256 + b.toNat := by simp [zw1]
theorem zkq (l : List UInt8) (k : Nat) (h : k < l.length) : zw1 (l.take (k + 1)) = zw1 (l.take k) * 256 + l[k].toNat := by
 rw [List.take_succ_eq_append_getElem h, zpf]
theorem yj4 (l : List UInt8) : zw1 l < 256 ^ l.length := by
 rw [<- List.reverse_reverse l]
 induction l.reverse with
 | nil => simp [zw1]
 | cons b l ih =>
   rw [List.reverse_cons, zpf, List.length_append, List.length_singleton, Nat.pow_succ]
   have := b.toNat_lt
   omega
theorem yef (l : List UInt8) (k : Nat) (h : k < l.length) (h8 : l.length <= 8) : zw1 (l.take k) < 72057594037927936 := by
 have h1 := yj4 (l.take k)
 have h2 : (l.take k).length <= 7 := by rw [List.length_take]; omega
 have h3 : 256 ^ (l.take k).length <= 256 ^ 7 := Nat.pow_le_pow_right (by omega) h2
 omega
theorem yhu (x : Nat) (b : UInt8) (h : x < 72057594037927936) : bits .or .u64 ((x : Int) * 256) (b.toNat : Int) = ((x * 256 + b.toNat : Nat) : Int) := by
 have hb := b.toNat_lt
 have := u64_or_nat (x * 256) b.toNat (by omega) (by omega)
 rw [nat_join 8 (x * 256) b.toNat (by omega) (by omega)] at this
 rw [<- this]; congr 1
set_option maxRecDepth 100000 in
set_option maxHeartbeats 400000 in
theorem yj3 (l : List UInt8) (w : World) (h1 : 1 <= l.length) (h8 : l.length <= 8) :
   Calls Tryz.prog 114 #[.string ⟨l.toArray⟩] w fun e w' => e = .returned (.tuple #[.int .u64 (zw1 l), .int .i64 0]) /\ w = w' := by
 have hne : (l == []) = false := by cases l <;> simp_all
 have hne' : l ≠ [] := by intro h; simp [h] at h1
 go_enter Tryz.func114, Tryz.ntmps114
 go_wp2
 refine zgk 0 (fun a' w' => w = w' /\ ∃ (k x : Nat), Hid (x = zw1 (l.take k)) /\ k < l.length /\ x < 72057594037927936 /\ ∃ u1 u2 u3 u6 u7 u8 u9 u10 u11 u12 u13 u14 u15 u16 u17 u18 u19 u20 u21 u22 u23 u24 : Value, a' = ⟨#[.string ⟨l.toArray⟩, u1, u2, u3, .int .u64 (x : Int), .int .i64 (k : Int), u6, u7, u8, u9, u10, u11, u12, u13, u14, u15, u16, u17, u18, u19, u20, u21, u22, u23, u24], []⟩) (fun a' _ => l.length - (intOf (a'.tmps.getD 5 undef)).toNat) rfl ?_ ?_
 · rintro a' w' ⟨rfl, k, x, hx, hk, hx7, u1, u2, u3, u6, u7, u8, u9, u10, u11, u12, u13, u14, u15, u16, u17, u18, u19, u20, u21, u22, u23, u24, rfl⟩
   have hor := yhu x l[k] hx7
   go_wp2
   · go_step3
     exact ⟨rfl, ⟨rfl, k + 1, x * 256 + l[k].toNat, Lib.hid (by rw [zkq l k hk, hx.out]), by omega, by have := yef l (k + 1) (by omega) h8; rw [zkq l k hk, <- hx.out] at this; exact this, _, _, _, _, _, _, _, _, _, _, _, _, _, _, _, _, _, _, _, _, _, _, by go_num⟩, by simp [intOf] <;> omega⟩
   · go_ret2
     refine ⟨?_, rfl⟩
     have : zw1 l = x * 256 + l[k].toNat := by rw [hx.out, <- zkq l k hk, List.take_of_length_le (by omega)]
     rw [this]; rfl
 · intro hP
   go_wp2
   go_step3
   simp only [Exit.then]
   apply_assumption
   exact hP.out _ _ ⟨rfl, 0, 0, Lib.hid rfl, by omega, by omega, _, _, _, _, _, _, _, _, _, _, _, _, _, _, _, _, _, _, _, _, _, _, rfl⟩
def zdh (n : Nat) : List UInt8 := if n < 128 then [UInt8.ofNat n] else UInt8.ofNat (n % 128 + 128) :: zdh (n / 128)
termination_by n
decreasing_by omega
theorem zbt {n : Nat} (h : n < 128) : zdh n = [UInt8.ofNat n] := by rw [zdh, if_pos h]
theorem zg8 {n : Nat} (h : 128 <= n) : zdh n = UInt8.ofNat (n % 128 + 128) :: zdh (n / 128) := by rw [zdh, if_neg (by omega)]
theorem yp9 (x : Nat) : bits .or .u8 ((x : Int) % 256) 128 = (x : Int) % 128 + 128 := by
 have h := u8_or_nat (x % 256) 128 (by omega) (by omega)
 have h2 : x % 256 ||| 128 = x % 128 + 128 := by
   have e1 : x % 256 = x % 128 + x / 128 % 2 * 128 := by omega
   have h3 : x / 128 % 2 = 0 \/ x / 128 % 2 = 1 := by omega
   have j1 : ∀ y, y < 128 -> 128 ||| y = 128 + y := fun y hy => nat_join 7 128 y (by decide) hy
   have e2 : ∀ y, y < 128 -> (y + 128) ||| 128 = y + 128 := fun y hy => by
     rw [Nat.add_comm y 128, <- j1 y hy, Nat.or_comm 128 y, Nat.or_assoc, Nat.or_self]
   rcases h3 with h3 | h3
   · rw [e1, h3, Nat.or_comm]; simp only [Nat.zero_mul, Nat.add_zero]; rw [j1 _ (by omega)]; omega
   · rw [e1, h3, Nat.one_mul, e2 _ (by omega)]
 rw [h2] at h
 have e : (((x % 256 : Nat) : Int)) = (x : Int) % 256 := by omega
 rw [e] at h
 rw [show ((128 : Nat) : Int) = 128 from rfl] at h
 rw [h]; omega
set_option maxRecDepth 100000 in
set_option maxHeartbeats 400000 in
theorem zwr (n : Nat) (w : World) (hn : n < 18446744073709551616) :
   Calls Tryz.prog 70 #[.int .u64 n] w fun e w' => e = .returned (.string ⟨(zdh n).toArray⟩) /\ Below w.heap.size w w' := by
 go_enter Tryz.func70, Tryz.ntmps70
 go_wp2
 refine zgk 0 (fun a' w' => Below w.heap.size w w' /\ ∃ (x k : Nat) (v : Value) (pre : List UInt8), Hid (pre ++ zdh x = zdh n) /\ x < 18446744073709551616 /\ k <= 10 /\ Hid (x * 128 ^ k <= n) /\ w'.ownsRow w.heap.size 5 1 v k (pre.map zl6) /\ ∃ u1 u2 u4 u5 u6 u7 u8 u9 u10 u11 u12 u13 u14 u15 u16 u17 u18 u19 : Value, a' = ⟨#[.int .u64 (x : Int), u1, u2, v, u4, u5, u6, u7, u8, u9, u10, u11, u12, u13, u14, u15, u16, u17, u18, u19], []⟩) (fun a' _ => (intOf (a'.tmps.getD 0 undef)).toNat) rfl ?_ ?_
 · rintro a' wr ⟨hb, x, k, v, pre, hpre, hx, hk, hxk, hown, u1, u2, u4, u5, u6, u7, u8, u9, u10, u11, u12, u13, u14, u15, u16, u17, u18, u19, rfl⟩
   have hor := yp9 x
   have hsz := hb.size
   by_cases hlt : x < 128
   · have hx8 : ∀ w1 : World, ∀ v1, w1.ownsRow w.heap.size 5 1 v1 (k + 1) (List.map zl6 pre ++ [Value.int .u8 (x : Int)]) -> (convert 79 9 v1).run Tryz.prog w1 = .ok (.string ⟨(pre ++ [UInt8.ofNat x]).toArray⟩) w1 := fun w1 v1 h =>
       zvh (P := Tryz.prog) (src := 79) (dst := 9) (e := 5) Tryz.underlying79 Tryz.underlying5 Tryz.underlying9 (pre ++ [UInt8.ofNat x]) (by
         have e : (Value.int .u8 (x : Int)) = zl6 (UInt8.ofNat x) := by rw [zgv]; go_num
         rw [List.map_append, List.map_singleton, <- e]; exact h)
     have Hx8 := Lib.hid hx8
     clear hx8
     go_wp2_with (at_builtin; refine zjp _ rfl _ _ 79 rfl w.heap.size 5 (.int .u8 0) 1 Tryz.underlying79 i5 rfl _ _ _ rfl hown _ rfl rfl (by omega) (by omega) hsz ?_; intro v1 w1 hown1 hb1; have hcv := Hx8.out w1 v1 hown1; clear hown1 hown hor)
     go_ret
     exact ⟨zxl (by rw [<- hpre.out, zbt hlt]), hb.trans (by assumption)⟩
   · go_wp2_with (at_builtin; refine zjp _ rfl _ _ 79 rfl w.heap.size 5 (.int .u8 0) 1 Tryz.underlying79 i5 rfl _ _ _ rfl hown _ rfl rfl (by omega) (by omega) hsz ?_; intro v1 w1 hown1 hb1)
     go_step3
     have h128 : 128 * 128 ^ k <= n := Nat.le_trans (Nat.mul_le_mul_right _ (by omega)) hxk.out
     have hk9 : k + 1 <= 10 := by
       refine Decidable.byContradiction fun h => ?_
       have : 128 ^ 10 <= 128 ^ k := Nat.pow_le_pow_right (by decide) (by omega)
       have h3 : (128 : Nat) ^ 10 = 1180591620717411303424 := by decide
       omega
     exact ⟨rfl, ⟨hb.trans hb1, x / 128, k + 1, v1, pre ++ [UInt8.ofNat (x % 128 + 128)], Lib.hid (by rw [List.append_assoc, <- hpre.out, zg8 (n := x) (by omega)]; rfl), by omega, hk9, Lib.hid (by
       rw [Nat.pow_succ]; have h4 : x / 128 * (128 ^ k * 128) <= x * 128 ^ k := by
         rw [Nat.mul_comm (128 ^ k) 128, <- Nat.mul_assoc]; exact Nat.mul_le_mul_right _ (by omega)
       exact Nat.le_trans h4 hxk.out), by
       rw [List.map_append, List.map_singleton, zgv]; rw [show (((x % 128 + 128 : Nat) : Int) % 256) = (x : Int) % 128 + 128 by omega]; exact hown1, _, _, _, _, _, _, _, _, _, _, _, _, _, _, _, _, _, _, rfl⟩, by simp [intOf]; omega⟩
 · intro hP
   go_wp2
   go_step3
   simp only [Exit.then]
   apply_assumption
   exact hP.out _ _ ⟨Below.refl _ _, n, 0, _, [], Lib.hid rfl, hn, by omega, Lib.hid (by simp), World.ownsRow_nil _ _ _ _, _, _, _, _, _, _, _, _, _, _, _, _, _, _, _, _, _, _, rfl⟩
end Go.Proofs.YtlphgephdhadhaaGreat
namespace Go.Proofs.YtlphgephdhadhaaGreat
open Go.RowKit
def ybj (w : World) (g : Nat) (ps : List (List UInt8)) : Prop := ∀ j (h : j < ps.length), w.cell? ⟨g, j, none⟩ = some (.string ⟨ps[j].toArray⟩)
def zw2 (ps : List (List UInt8)) : List UInt8 := ps.flatten
end Go.Proofs.YtlphgephdhadhaaGreat
namespace Go.Proofs.YtlphgephdhadhaaGreat
namespace Sy
open Go Go.RowKit
set_option maxRecDepth 100000
def zxw (e n : Int) : List UInt8 := zxx e.toNat (cl8 n)
def getZ (l : List UInt8) : Int := zw1 l
def yct (e n : Int) : Prop := 0 <= e /\ e < 18446744073709551616 /\ -9223372036854775808 <= n /\ n <= 9223372036854775807
def yee (l : List UInt8) : Prop := 1 <= l.length /\ l.length <= 8
def upto (n : Nat) (l : List UInt8) : Prop := l.length <= n
def zuv (L : za9) : zcw := (79, fun xs => match xs with | [.int .u64 e, .int .i64 n] => some (L2 L yct e n, .str (L2 L zxw e n)) | _ => none)
def yj2 (L : za9) : zcw := (114, fun xs => match xs with | [.str l] => some (L yee l, .tup [.int .u64 (L getZ l), .int .i64 0]) | _ => none)
theorem yl4 {x y : AV} {v u : Value} (hx : ∀ h D, R h D zap x v) (hy : ∀ h D, R h D zap y u) : ∀ h D, R h D zap (.tup [x, y]) (.tuple #[v, u]) := by
 intro h D
 refine .tup _ _ rfl ?_
 intro i z t hz ht
 match i with
 | 0 => simp at hz ht; subst hz ht; exact hx h D
 | 1 => simp at hz ht; subst hz ht; exact hy h D
 | i + 2 => simp at hz
theorem yml (k : IntKind) (n : Int) : ∀ h D, R h D zap (.int k n) (.int k n) := fun _ _ => .int k n
theorem zym {e : Int} (h : 0 <= e) : ∃ n : Nat, e = n := ⟨e.toNat, by omega⟩
theorem zj4 : zdd Tryz.prog (zuv std) := by
 intro xs p r h hp
 dsimp only [zuv] at h |-
 split at h <;> cases h
 rename_i e n
 obtain ⟨h0, h1, h2, h3⟩ : yct e n := hp
 obtain ⟨k, rfl⟩ := zym h0
 exact ze4 (fn := Tryz.f79) rfl rfl (by kernel_rfl) (ynp (zh1 _ _) (zh1 _ _)) (fun h D => zwm h D _ _) (fun w => yhr k n w (by omega))
theorem yed : zdd Tryz.prog (yj2 std) := by
 intro xs p r h hp
 dsimp only [yj2] at h |-
 split at h <;> cases h
 rename_i l
 obtain ⟨h1, h8⟩ : yee l := hp
 exact ze4 (fn := Tryz.f114) rfl rfl (by kernel_rfl) (yka (zjt _)) (yl4 (yml _ _) (yml _ _)) (zo0 fun w => yj3 l w h1 h8)
end Sy
end Go.Proofs.YtlphgephdhadhaaGreat
namespace Go.Proofs.YtlphgephdhadhaaGreat
namespace Sy
open Go Go.RowKit
set_option maxRecDepth 100000
set_option linter.unusedSimpArgs false
set_option linter.unusedVariables false
abbrev Pr := { l : List Int // l.length = 16 }
structure Le where
 p : Pr
 d : Int
 h : Bool
 deriving DecidableEq
def zgx (p : Pr) : Prop := ∀ x ∈ p.1, 0 <= x /\ x < 256
def zom (a : Nat) (p : List Int) : Nat := p.foldl (fun a x => 256 * a + x.toNat) a
def zkm (p : List Int) : Nat := zom 0 p
theorem zi1 : ∀ (p : List Int) (a : Nat), zom a p = a * 256 ^ p.length + zkm p
 | [], a => by simp [zom, zkm]
 | x :: p, a => by
   have h1 := zi1 p (256 * a + x.toNat)
   have h2 := zi1 p (256 * 0 + x.toNat)
   have e1 : zom a (x :: p) = zom (256 * a + x.toNat) p := rfl
   have e2 : zkm (x :: p) = zom (256 * 0 + x.toNat) p := rfl
   rw [e1, e2, h1, h2, List.length_cons, Nat.pow_succ, Nat.add_mul, Nat.add_mul, Nat.mul_comm 256 a, Nat.mul_assoc, Nat.mul_comm (256 ^ p.length) 256]
   simp only [Nat.mul_zero, Nat.zero_mul]
   omega
theorem zet (x : Int) (p : List Int) : zkm (x :: p) = x.toNat * 256 ^ p.length + zkm p := by
 have e2 : zkm (x :: p) = zom (256 * 0 + x.toNat) p := rfl
 rw [e2, zi1, Nat.mul_zero, Nat.zero_add]
theorem zkl : ∀ {p : List Int}, (∀ x ∈ p, 0 <= x /\ x < 256) -> zkm p < 256 ^ p.length
 | [], _ => by simp [zkm, zom]
 | x :: p, h => by
   have ih := zkl (p := p) (fun y hy => h y (List.mem_cons_of_mem _ hy))
   have hx := h x (by simp)
   rw [zet, List.length_cons, Nat.pow_succ, Nat.mul_comm (256 ^ p.length)]
   have h1 : (x.toNat + 1) * 256 ^ p.length <= 256 * 256 ^ p.length := Nat.mul_le_mul_right _ (by omega)
   rw [Nat.add_mul, Nat.one_mul] at h1
   omega
theorem ztk : ∀ {p q : List Int}, p.length = q.length -> (∀ x ∈ p, 0 <= x /\ x < 256) -> (∀ x ∈ q, 0 <= x /\ x < 256) -> zkm p = zkm q -> p = q
 | [], [], _, _, _, _ => rfl
 | x :: p, y :: q, hl, hp, hq, h => by
   have hl : p.length = q.length := by simpa using hl
   have h1 := zkl (p := p) (fun y hy => hp y (List.mem_cons_of_mem _ hy))
   have h2 := zkl (p := q) (fun y hy => hq y (List.mem_cons_of_mem _ hy))
   have hx := hp x (by simp)
   have hy := hq y (by simp)
   rw [zet, zet, <- hl] at h
   rw [<- hl] at h2
   have e : x.toNat = y.toNat := by
     rcases Nat.lt_trichotomy x.toNat y.toNat with h3 | h3 | h3
     · have h4 : (x.toNat + 1) * 256 ^ p.length <= y.toNat * 256 ^ p.length := Nat.mul_le_mul_right _ (by omega)
       rw [Nat.add_mul, Nat.one_mul] at h4
       omega
     · exact h3
     · have h4 : (y.toNat + 1) * 256 ^ p.length <= x.toNat * 256 ^ p.length := Nat.mul_le_mul_right _ (by omega)
       rw [Nat.add_mul, Nat.one_mul] at h4
       omega
   have e' : x = y := by omega
   rw [e] at h
   rw [e', ztk hl (fun y hy => hp y (List.mem_cons_of_mem _ hy)) (fun y hy => hq y (List.mem_cons_of_mem _ hy)) (by omega)]
def prN (p : Pr) : Nat := zkm p.1
theorem zy3 {p q : Pr} (hp : zgx p) (hq : zgx q) (h : prN p = prN q) : p = q := Subtype.ext (ztk (by rw [p.2, q.2]) hp hq h)
def prB (p : List Int) : List UInt8 := p.map fun x => UInt8.ofNat x.toNat
theorem yl1 {x y : Int} (hx : 0 <= x /\ x < 256) (hy : 0 <= y /\ y < 256) : (UInt8.ofNat x.toNat < UInt8.ofNat y.toNat) = (x < y) := by
 rw [UInt8.lt_iff_toNat_lt, UInt8.toNat_ofNat', UInt8.toNat_ofNat', Nat.mod_eq_of_lt (by omega), Nat.mod_eq_of_lt (by omega)]
 exact propext ⟨fun h => by omega, fun h => by omega⟩
theorem yah : ∀ {p q : List Int}, p.length = q.length -> (∀ x ∈ p, 0 <= x /\ x < 256) -> (∀ x ∈ q, 0 <= x /\ x < 256) ->
   Lib.compareBytes (prB p) (prB q) = if zkm p < zkm q then -1 else if zkm q < zkm p then 1 else 0
 | [], [], _, _, _ => rfl
 | x :: p, y :: q, hl, hp, hq => by
   have hl : p.length = q.length := by simpa using hl
   have h1 := zkl (p := p) (fun y hy => hp y (List.mem_cons_of_mem _ hy))
   have h2 := zkl (p := q) (fun y hy => hq y (List.mem_cons_of_mem _ hy))
   have ih := yah hl (fun y hy => hp y (List.mem_cons_of_mem _ hy)) (fun y hy => hq y (List.mem_cons_of_mem _ hy))
   have hx := hp x (by simp)
   have hy := hq y (by simp)
   rw [zet, zet, <- hl]
   rw [<- hl] at h2
   show (if UInt8.ofNat x.toNat < UInt8.ofNat y.toNat then (-1 : Int) else if UInt8.ofNat y.toNat < UInt8.ofNat x.toNat then 1 else Lib.compareBytes (prB p) (prB q)) = _
   simp only [yl1 hx hy, yl1 hy hx]
   rcases Int.lt_trichotomy x y with h3 | h3 | h3
   · have h4 : (x.toNat + 1) * 256 ^ p.length <= y.toNat * 256 ^ p.length := Nat.mul_le_mul_right _ (by omega)
     rw [Nat.add_mul, Nat.one_mul] at h4
     rw [if_pos h3, if_pos (by omega)]
   · subst h3
     rw [if_neg (by omega), if_neg (by omega), ih]
     by_cases h5 : zkm p < zkm q
     · rw [if_pos h5, if_pos (by omega)]
     · rw [if_neg h5, if_neg (c := x.toNat * 256 ^ p.length + zkm p < x.toNat * 256 ^ p.length + zkm q) (by omega)]
       by_cases h6 : zkm q < zkm p
       · rw [if_pos h6, if_pos (by omega)]
       · rw [if_neg h6, if_neg (by omega)]
   · have h4 : (y.toNat + 1) * 256 ^ p.length <= x.toNat * 256 ^ p.length := Nat.mul_le_mul_right _ (by omega)
     rw [Nat.add_mul, Nat.one_mul] at h4
     rw [if_neg (by omega), if_pos h3, if_neg (by omega), if_pos (by omega)]
def kLe (e : Le) : Nat := prN e.p
def zix (e : Le) : Prop := zgx e.p /\ 0 <= e.d /\ e.d <= 255
structure zde (l : List Le) : Prop where
 ris : l.Pairwise fun a b => kLe a < kLe b
 ok : ∀ e ∈ l, zix e
def zc6 (k : Nat) : List Le -> Nat
 | [] => 0
 | e :: l => if kLe e < k then zc6 k l + 1 else 0
theorem zi8 (k : Nat) : ∀ l, zc6 k l <= l.length
 | [] => Nat.le_refl _
 | e :: l => by
   have := zi8 k l
   unfold zc6
   split <;> simp <;> omega
theorem zi7 {k : Nat} : ∀ {l : List Le} {i : Nat} (hi : i < l.length), i < zc6 k l -> kLe l[i] < k
 | e :: l, 0, _, h => by
   unfold zc6 at h
   split at h
   · assumption
   · omega
 | e :: l, i + 1, hi, h => by
   unfold zc6 at h
   split at h
   · exact zi7 (l := l) (by simpa using hi) (by omega)
   · omega
theorem znb {k : Nat} : ∀ {l : List Le}, l.Pairwise (fun a b => kLe a < kLe b) -> ∀ {i : Nat} (hi : i < l.length), zc6 k l <= i -> k <= kLe l[i]
 | e :: l, hr, 0, _, h => by
   unfold zc6 at h
   split at h
   · omega
   · simpa using Nat.not_lt.1 (by assumption)
 | e :: l, hr, i + 1, hi, h => by
   have hr := List.pairwise_cons.1 hr
   unfold zc6 at h
   split at h
   · exact znb hr.2 (i := i) (by simpa using hi) (by omega)
   · have hi' : i < l.length := by simpa using hi
     have := hr.1 l[i] (List.getElem_mem hi')
     simp only [List.getElem_cons_succ]
     omega
theorem yin {a b : Le} (ha : zix a) (hb : zix b) (h : kLe a = kLe b) : a.p = b.p := zy3 ha.1 hb.1 h
def zb6 (p : Pr) (l : List Le) : Bool := l.any fun e => decide (e.p = p)
theorem zgm {l : List Le} {p : Pr} (hl : zde l) (hp : zgx p) : zb6 p l = true ↔ ∃ h : zc6 (prN p) l < l.length, l[zc6 (prN p) l].p = p := by
 unfold zb6
 rw [List.any_eq_true]
 constructor
 · rintro ⟨e, he, h⟩
   have h : e.p = p := of_decide_eq_true h
   obtain ⟨i, hi, rfl⟩ := List.getElem_of_mem he
   have hk : kLe l[i] = prN p := by rw [kLe, h]
   have h1 : ¬ i < zc6 (prN p) l := fun h2 => by have := zi7 hi h2; omega
   have h2 : zc6 (prN p) l < l.length := by omega
   have h3 := znb hl.ris h2 (Nat.le_refl _)
   by_cases h4 : zc6 (prN p) l = i
   · refine ⟨h2, ?_⟩
     simp only [h4]; exact h
   · have := List.pairwise_iff_getElem.1 hl.ris (zc6 (prN p) l) i h2 hi (by omega)
     omega
 · rintro ⟨h, e⟩
   exact ⟨_, List.getElem_mem h, decide_eq_true e⟩
theorem ypm {l : List Le} {p : Pr} (hl : zde l) (hp : zgx p) (h : zc6 (prN p) l < l.length) : (kLe l[zc6 (prN p) l] = prN p) ↔ zb6 p l = true := by
 rw [zgm hl hp]
 constructor
 · intro e
   exact ⟨h, zy3 (hl.ok _ (List.getElem_mem h)).1 hp e⟩
 · rintro ⟨_, e⟩
   rw [kLe, e]
def zbo (l : List Le) (p : Pr) : Le := match l.find? (fun e => decide (e.p = p)) with
 | some e => e
 | none => ⟨p, 0, false⟩
def zcu (i : Nat) (l : List Le) : List Le := l.take i ++ l.drop (i + 1)
def zw0 (i : Nat) (e : Le) (l : List Le) : List Le := l.take i ++ e :: l.drop i
def zd5 (e : Le) : Bool := decide (0 < e.d) || e.h
def zdl (e : Le) (l : List Le) : List Le := if zb6 e.p l = true then zcu (zc6 (kLe e) l) l else l
def zbu (l : List Le) (e : Le) : List Le := if zd5 e = true then zw0 (zc6 (kLe e) l) e (zdl e l) else zdl e l
theorem yja {l : List Le} {p : Pr} (hl : zde l) (hp : zgx p) (h : zb6 p l = true) : ∃ hi : zc6 (prN p) l < l.length, zbo l p = l[zc6 (prN p) l] := by
 obtain ⟨hi, e⟩ := (zgm hl hp).1 h
 refine ⟨hi, ?_⟩
 unfold zbo
 have : l.find? (fun e => decide (e.p = p)) = some l[zc6 (prN p) l] := by
   rw [List.find?_eq_some_iff_getElem]
   refine ⟨decide_eq_true e, _, hi, rfl, fun j hj => ?_⟩
   have h1 := zi7 (l := l) (i := j) (by omega) hj
   simp only [Bool.not_eq_eq_eq_not, Bool.not_true, decide_eq_false_iff_not]
   intro h2
   rw [kLe, h2] at h1
   omega
 rw [this]
theorem zkx {l : List Le} {p : Pr} (h : zb6 p l = false) : zbo l p = ⟨p, 0, false⟩ := by
 unfold zbo
 have : l.find? (fun e => decide (e.p = p)) = none := by
   rw [List.find?_eq_none]
   intro e he h2
   unfold zb6 at h
   rw [List.any_eq_false] at h
   exact h e he h2
 rw [this]
theorem yid (l : List Le) (p : Pr) : (zbo l p).p = p := by
 unfold zbo
 split
 · rename_i e h
   have := List.find?_some h
   exact of_decide_eq_true this
 · rfl
theorem zja {l : List Le} {p : Pr} (hl : zde l) (hp : zgx p) : zix (zbo l p) := by
 unfold zbo
 split
 · rename_i e h
   exact hl.ok _ (List.mem_of_find?_eq_some h)
 · exact ⟨hp, Int.le_refl _, by show (0 : Int) <= 255; decide⟩
theorem zhc {i : Nat} {l : List Le} {e : Le} (h : e ∈ zcu i l) : e ∈ l := by
 unfold zcu at h
 rcases List.mem_append.1 h with h | h
 · exact List.mem_of_mem_take h
 · exact List.mem_of_mem_drop h
theorem zjb {i : Nat} {l : List Le} (hl : zde l) : zde (zcu i l) := by
 refine ⟨?_, fun e he => hl.ok e (zhc he)⟩
 refine hl.ris.sublist ?_
 unfold zcu
 conv => rhs; rw [<- List.take_append_drop i l]
 exact List.Sublist.append (List.Sublist.refl _) (List.drop_sublist_drop_left l (Nat.le_succ i))
theorem ze1 {i : Nat} {l : List Le} (h : i < l.length) : (zcu i l).length + 1 = l.length := by
 unfold zcu; simp; omega
theorem ydt {e : Le} {l : List Le} (hl : zde l) : zde (zdl e l) := by
 unfold zdl
 split
 · exact zjb hl
 · exact hl
theorem zk7 {e : Le} {l : List Le} (hl : zde l) (he : zix e) : (∀ x ∈ (zdl e l).take (zc6 (kLe e) l), kLe x < kLe e) /\ (∀ x ∈ (zdl e l).drop (zc6 (kLe e) l), kLe e < kLe x) /\ zc6 (kLe e) l <= (zdl e l).length := by
 have hlb := zi8 (kLe e) l
 unfold zdl
 by_cases h : zb6 e.p l = true
 · rw [if_pos h]
   obtain ⟨hi, h2⟩ := (zgm hl he.1).1 h
   have hi : zc6 (kLe e) l < l.length := hi
   have h2 : l[zc6 (kLe e) l].p = e.p := h2
   unfold zcu
   refine ⟨?_, ?_, by simp; omega⟩
   · intro x hx
     rw [List.take_append_of_le_length (by simp; omega), List.take_take, Nat.min_self] at hx
     obtain ⟨j, hj, rfl⟩ := List.mem_take_iff_getElem.1 hx
     exact zi7 (by omega) (by omega)
   · intro x hx
     rw [List.drop_append_of_le_length (by simp; omega), List.drop_eq_nil_of_le (by simp; omega), List.nil_append] at hx
     obtain ⟨j, hj, rfl⟩ := List.mem_drop_iff_getElem.1 hx
     have := List.pairwise_iff_getElem.1 hl.ris (zc6 (kLe e) l) (zc6 (kLe e) l + 1 + j) hi (by omega) (by omega)
     have h3 : kLe l[zc6 (kLe e) l] = kLe e := by rw [kLe, h2]; rfl
     omega
 · rw [if_neg h]
   refine ⟨?_, ?_, hlb⟩
   · intro x hx
     obtain ⟨j, hj, rfl⟩ := List.mem_take_iff_getElem.1 hx
     exact zi7 (by omega) (by omega)
   · intro x hx
     obtain ⟨j, hj, rfl⟩ := List.mem_drop_iff_getElem.1 hx
     have h3 := znb hl.ris (k := kLe e) (i := zc6 (kLe e) l + j) (by omega) (by omega)
     rcases Nat.lt_or_eq_of_le h3 with h4 | h4
     · exact h4
     · exfalso
       apply h
       unfold zb6
       rw [List.any_eq_true]
       exact ⟨_, List.getElem_mem _, decide_eq_true (yin (hl.ok _ (List.getElem_mem _)) he h4.symm)⟩
theorem zna {l : List Le} {e : Le} (hl : zde l) (he : zix e) : zde (zbu l e) := by
 obtain ⟨h1, h2, h3⟩ := zk7 hl he
 have ho := ydt (e := e) hl
 unfold zbu
 by_cases hk : zd5 e = true
 · rw [if_pos hk]
   unfold zw0
   refine ⟨?_, ?_⟩
   · rw [List.pairwise_append]
     refine ⟨ho.ris.sublist (List.take_sublist _ _), ?_, ?_⟩
     · rw [List.pairwise_cons]
       exact ⟨fun x hx => h2 x hx, ho.ris.sublist (List.drop_sublist _ _)⟩
     · intro a ha b hb
       rcases List.mem_cons.1 hb with rfl | hb
       · exact h1 a ha
       · exact Nat.lt_trans (h1 a ha) (h2 b hb)
   · intro x hx
     rcases List.mem_append.1 hx with hx | hx
     · exact ho.ok x (List.mem_of_mem_take hx)
     · rcases List.mem_cons.1 hx with rfl | hx
       · exact he
       · exact ho.ok x (List.mem_of_mem_drop hx)
 · rw [if_neg hk]; exact ho
theorem zz6 {e : Le} {l : List Le} (hl : zde l) (he : zix e) : (zdl e l).length + (if zb6 e.p l = true then 1 else 0) = l.length := by
 unfold zdl
 by_cases h : zb6 e.p l = true
 · obtain ⟨hi, _⟩ := (zgm hl he.1).1 h
   rw [if_pos h, if_pos h]; exact ze1 hi
 · rw [if_neg h, if_neg h]; rfl
theorem zj9 {i : Nat} {e : Le} {l : List Le} (h : i <= l.length) : (zw0 i e l).length = l.length + 1 := by
 unfold zw0; simp; omega
theorem zz5 {l : List Le} {e : Le} (hl : zde l) (he : zix e) : (zbu l e).length <= l.length + (if zb6 e.p l = true then 0 else 1) /\ (zd5 e = false -> (zbu l e).length <= l.length) := by
 have h1 := zz6 hl he
 have h3 := (zk7 hl he).2.2
 unfold zbu
 by_cases hk : zd5 e = true
 · rw [if_pos hk, zj9 h3]
   refine ⟨?_, fun h => by rw [hk] at h; cases h⟩
   by_cases h : zb6 e.p l = true
   · rw [if_pos h] at h1 |-; omega
   · rw [if_neg h] at h1 |-; omega
 · rw [if_neg hk]
   refine ⟨by omega, fun _ => by omega⟩
theorem yi5 {e x : Le} {l : List Le} (hl : zde l) (he : zix e) : x ∈ zdl e l ↔ x ∈ l /\ x.p ≠ e.p := by
 obtain ⟨h1, h2, h3⟩ := zk7 hl he
 have hne : ∀ x ∈ zdl e l, x.p ≠ e.p := by
   intro x hx h
   rw [<- List.take_append_drop (zc6 (kLe e) l) (zdl e l), List.mem_append] at hx
   have hk : kLe x = kLe e := by rw [kLe, h]; rfl
   rcases hx with hx | hx
   · have := h1 x hx; omega
   · have := h2 x hx; omega
 constructor
 · intro hx
   refine ⟨?_, hne x hx⟩
   unfold zdl at hx
   split at hx
   · exact zhc hx
   · exact hx
 · rintro ⟨hx, h⟩
   unfold zdl
   split
   · rename_i hh
     obtain ⟨hi, h4⟩ := (zgm hl he.1).1 hh
     have hi : zc6 (kLe e) l < l.length := hi
     have h4 : l[zc6 (kLe e) l].p = e.p := h4
     unfold zcu
     rw [<- List.take_append_drop (zc6 (kLe e) l) l, List.drop_eq_getElem_cons hi, List.mem_append, List.mem_cons] at hx
     rw [List.mem_append]
     rcases hx with hx | rfl | hx
     · exact .inl hx
     · exact absurd h4 h
     · exact .inr hx
   · exact hx
theorem zn3 {e x : Le} {l : List Le} (hl : zde l) (he : zix e) : x ∈ zbu l e ↔ (x ∈ l /\ x.p ≠ e.p) \/ (zd5 e = true /\ x = e) := by
 rw [<- yi5 hl he]
 unfold zbu
 by_cases hk : zd5 e = true
 · rw [if_pos hk]
   unfold zw0
   constructor
   · intro h
     rcases List.mem_append.1 h with h | h
     · exact .inl (List.mem_of_mem_take h)
     · rcases List.mem_cons.1 h with rfl | h
       · exact .inr ⟨hk, rfl⟩
       · exact .inl (List.mem_of_mem_drop h)
   · rintro (h | ⟨_, rfl⟩)
     · rw [<- List.take_append_drop (zc6 (kLe e) l) (zdl e l), List.mem_append] at h
       rw [List.mem_append, List.mem_cons]
       rcases h with h | h
       · exact .inl h
       · exact .inr (.inr h)
     · rw [List.mem_append, List.mem_cons]
       exact .inr (.inl rfl)
 · rw [if_neg hk]
   constructor
   · exact .inl
   · rintro (h | ⟨h, _⟩)
     · exact h
     · exact absurd h hk
theorem ylx {l : List Le} (hl : zde l) {a b : Le} (ha : a ∈ l) (hb : b ∈ l) (h : a.p = b.p) : a = b := by
 obtain ⟨i, hi, rfl⟩ := List.getElem_of_mem ha
 obtain ⟨j, hj, rfl⟩ := List.getElem_of_mem hb
 have hk : kLe l[i] = kLe l[j] := by rw [kLe, h]; rfl
 rcases Nat.lt_trichotomy i j with h1 | h1 | h1
 · have := List.pairwise_iff_getElem.1 hl.ris i j hi hj h1; omega
 · subst h1; rfl
 · have := List.pairwise_iff_getElem.1 hl.ris j i hj hi h1; omega
theorem znl {l : List Le} (hl : zde l) {e : Le} (he : e ∈ l) : zbo l e.p = e := by
 unfold zbo
 cases h : l.find? (fun x => decide (x.p = e.p)) with
 | some x => exact ylx hl (List.mem_of_find?_eq_some h) he (of_decide_eq_true (by simpa using List.find?_some h))
 | none =>
   rw [List.find?_eq_none] at h
   exact absurd (decide_eq_true rfl) (h e he)
theorem zr4 {l : List Le} {p : Pr} (h : ∀ e ∈ l, e.p ≠ p) : zbo l p = ⟨p, 0, false⟩ := by
 refine zkx ?_
 unfold zb6
 rw [List.any_eq_false]
 intro e he h2
 exact h e he (of_decide_eq_true h2)
theorem zib {l : List Le} {p : Pr} : zb6 p l = true ↔ ∃ e ∈ l, e.p = p := by
 unfold zb6
 rw [List.any_eq_true]
 exact ⟨fun ⟨e, h1, h2⟩ => ⟨e, h1, of_decide_eq_true h2⟩, fun ⟨e, h1, h2⟩ => ⟨e, h1, decide_eq_true h2⟩⟩
theorem zzr {l : List Le} {e : Le} {q : Pr} (hl : zde l) (he : zix e) : zbo (zbu l e) q = if q = e.p then (if zd5 e = true then e else ⟨e.p, 0, false⟩) else zbo l q := by
 have hp := zna hl he
 by_cases hq : q = e.p
 · rw [if_pos hq, hq]
   by_cases hk : zd5 e = true
   · rw [if_pos hk]
     exact znl hp ((zn3 hl he).2 (.inr ⟨hk, rfl⟩))
   · rw [if_neg hk]
     refine zr4 fun x hx h => ?_
     rcases (zn3 hl he).1 hx with ⟨_, h2⟩ | ⟨h2, _⟩
     · exact h2 h
     · exact hk h2
 · rw [if_neg hq]
   cases hh : zb6 q l with
   | true =>
     obtain ⟨x, hx, rfl⟩ := zib.1 hh
     rw [znl hl hx]
     exact znl hp ((zn3 hl he).2 (.inl ⟨hx, hq⟩))
   | false =>
     rw [zkx hh]
     refine zr4 fun x hx h => ?_
     rcases (zn3 hl he).1 hx with ⟨h2, _⟩ | ⟨_, rfl⟩
     · rw [zib.2 ⟨x, h2, h⟩] at hh; cases hh
     · exact hq h.symm
def ybv (e : Le) (k : Int) : Le := ⟨e.p, min (e.d + 1) 255, e.h || decide (k <= min (e.d + 1) 255)⟩
def firstFree (l : List Le) : Nat := l.findIdx fun e => !e.h
def zfn (l : List Le) (p : Pr) : Bool := !zb6 p l && decide (64 <= l.length)
def zcr (l : List Le) (p : Pr) : List Le := if zfn l p = true then zcu (firstFree l) l else l
def zc1 (l : List Le) (p : Pr) (k : Int) : Int := if k < 1 \/ 255 < k then 7 else if zfn l p = true /\ ¬ firstFree l < l.length then 17 else 0
def zbq (l : List Le) (p : Pr) (k : Int) : List Le := if zc1 l p k = 0 then zbu (zcr l p) (ybv (zbo l p) k) else []
theorem zrh {e : Le} (k : Int) (h : zix e) : zix (ybv e k) := by
 obtain ⟨h1, h2, h3⟩ := h
 exact ⟨h1, by show 0 <= min _ _; omega, by show min _ _ <= 255; omega⟩
theorem zxk {l : List Le} (p : Pr) (hl : zde l) : zde (zcr l p) := by
 unfold zcr
 split
 · exact zjb hl
 · exact hl
theorem yeo {l : List Le} {p : Pr} (k : Int) (hl : zde l) (hp : zgx p) : zde (zbq l p k) := by
 unfold zbq
 split
 · exact zna (zxk p hl) (zrh k (zja hl hp))
 · exact ⟨List.Pairwise.nil, fun e h => by cases h⟩
theorem ya9 {l : List Le} {p : Pr} (k : Int) (hl : zde l) (hp : zgx p) (h64 : l.length <= 64) : (zbq l p k).length <= 64 := by
 unfold zbq
 split
 · rename_i h
   have h1 := (zz5 (zxk p hl) (zrh k (zja hl hp))).1
   have hd : (ybv (zbo l p) k).p = p := yid l p
   rw [hd] at h1
   by_cases hf : zfn l p = true
   · have hr : zcr l p = zcu (firstFree l) l := if_pos hf
     have hlt : firstFree l < l.length := by
       unfold zc1 at h
       split at h
       · cases h
       · split at h
         · cases h
         · rename_i h2
           exact Classical.byContradiction fun h3 => h2 ⟨hf, h3⟩
     have := ze1 hlt
     rw [hr] at h1 |-
     have : (if zb6 p (zcu (firstFree l) l) = true then 0 else 1) <= 1 := by split <;> omega
     omega
   · have hr : zcr l p = l := if_neg hf
     rw [hr] at h1 |-
     unfold zfn at hf
     by_cases hh : zb6 p l = true
     · rw [if_pos hh] at h1; omega
     · rw [if_neg hh] at h1
       have hh : zb6 p l = false := by simpa using hh
       rw [hh] at hf
       simp at hf
       omega
 · simp
end Sy
end Go.Proofs.YtlphgephdhadhaaGreat
namespace Go.Proofs.YtlphgephdhadhaaGreat
namespace Sy
open Go Go.RowKit
set_option linter.unusedVariables false
def DW (W : World) : Nat -> Prop := fun b => b < W.heap.size
structure ybk {H : Type} (enc : TypeId × Value -> H) (P : Program) (W : World) (t : TypeId) (α : Type) (sz : Nat) (av : α -> Nat -> AV) (ok : α -> Prop) : Prop where
 size : P.cellsOf t = sz
 go : ∀ fuel cs x, DataW.trod enc P W 0 (fun _ => true) true fuel t cs = some x -> ∃ y : α, ok y /\ cs.length = sz /\ ∀ j, j < sz -> ∃ v, cs[j]? = some v /\ one v /\ R W.heap (DW W) zap (av y j) v
theorem sgl {h : Array Obj} {D : Nat -> Prop} {f : Nat -> AV} {v : Value} (h1 : one v) (h2 : R h D zap (f 0) v) : ∀ j, j < 1 -> ∃ u, [v][j]? = some u /\ one u /\ R h D zap (f j) u := by
 intro j hj
 obtain rfl : j = 0 := by omega
 exact ⟨v, rfl, h1, h2⟩
section
variable {H : Type} {enc : TypeId × Value -> H} {P : Program} {W : World}
theorem opens_int {t : TypeId} {k : IntKind} (ht : P.underlying t = some (.int k)) (hc : P.cellsOf t = 1) : ybk enc P W t Int 1 (fun n _ => .int k n) (fun n => (Lit.int k n).wf = true) := by
 refine ⟨hc, fun fuel cs x h => ?_⟩
 obtain ⟨n, rfl, rfl, hw⟩ := DataW.trod_int ht h
 exact ⟨n, hw, rfl, sgl rfl (.int k n)⟩
theorem ybk.map {t : TypeId} {α β : Type} {sz : Nat} {av : α -> Nat -> AV} {av' : β -> Nat -> AV} {ok : α -> Prop} {ok' : β -> Prop} (O : ybk enc P W t α sz av ok) (f : α -> β) (h1 : ∀ y j, j < sz -> av y j = av' (f y) j) (h2 : ∀ y, ok y -> ok' (f y)) : ybk enc P W t β sz av' ok' := by
 refine ⟨O.size, fun fuel cs x h => ?_⟩
 obtain ⟨y, y1, y2, y3⟩ := O.go fuel cs x h
 refine ⟨f y, h2 y y1, y2, fun j hj => ?_⟩
 obtain ⟨v, v1, v2, v3⟩ := y3 j hj
 exact ⟨v, v1, v2, by rw [<- h1 y j hj]; exact v3⟩
theorem open_one {t : TypeId} {α : Type} {av : α -> Nat -> AV} {ok : α -> Prop} {v : Value} {d : DataW H} {p : List MemPlace} (O : ybk enc P W t α 1 av ok) (hv : v.cells = #[v]) (h : DataW.Trod enc P W 0 (fun _ => true) true t v d p) :
   ∃ y, ok y /\ R W.heap (DW W) zap (av y 0) v := by
 obtain ⟨fuel, h⟩ := h
 obtain ⟨y, y1, y2, y3⟩ := O.go _ _ _ h
 obtain ⟨u, u1, u2, u3⟩ := y3 0 (by omega)
 rw [hv] at u1
 simp at u1
 subst u1
 exact ⟨y, y1, u3⟩
end
theorem ykc {P : Program} {f : FuncId} {xs ys : List AV} {r : AV} (h : ∀ h D vs, RL h D zap xs vs -> RL h D zap ys vs) (ha : zac P f ys r) : zac P f xs r := fun D w vs hD hx => ha D w vs hD (h _ _ _ hx)
end Sy
end Go.Proofs.YtlphgephdhadhaaGreat
namespace Go.Proofs.YtlphgephdhadhaaGreat
namespace Sy
open Go Go.RowKit
set_option maxRecDepth 100000
set_option linter.unusedSimpArgs false
set_option linter.unusedVariables false
structure Vw (α : Type) where
 sz : Nat
 cell : za9 -> α -> Nat -> AV
 rd : (Nat -> AV) -> α
 ok : (Nat -> AV) -> Prop
 d : α
structure ybh {α : Type} (V : Vw α) : Prop where
 turn : ∀ c, V.ok c -> ∀ j, j < V.sz -> ∀ (h : Array Obj) (D : Nat -> Prop) (μ : Mu) (v : Value), R h D μ (c j) v -> R h D μ (V.cell std (V.rd c) j) v
 back : ∀ c x, (∀ j, j < V.sz -> c j = V.cell std x j) -> V.ok c /\ V.rd c = x
def zyg {α : Type} (V : Vw α) (l : List α) (i : Nat) : α := l.getD i V.d
def zfl {α : Type} (l : List α) : Nat := l.length
def getW {α : Type} (L : za9) (V : Vw α) (l : List α) : Nat -> Nat -> AV := fun i j => V.cell L (L (L (zyg V) l) i) j
def zv6 {α : Type} (L : za9) (V : Vw α) (l : List α) : AV := .lst V.sz (L zfl l) (getW L V l)
def rdW {α : Type} (V : Vw α) : AV -> List α
 | .lst _ n get => (List.range n).map fun i => V.rd (get i)
 | _ => []
def okW {α : Type} (V : Vw α) : AV -> Prop
 | .lst sz n get => sz = V.sz /\ ∀ i, i < n -> V.ok (get i)
 | .nils => True
 | _ => False
theorem zi4 {α : Type} {V : Vw α} {l : List α} {i : Nat} (h : i < l.length) : zyg V l i = l[i] := by
 rw [zyg, List.getD_eq_getElem?_getD, List.getElem?_eq_getElem h]; rfl
theorem zqj {α : Type} (V : Vw α) (sz n : Nat) (get : Nat -> Nat -> AV) : (rdW V (.lst sz n get)).length = n := by simp [rdW]
theorem yfj {α : Type} {V : Vw α} {sz n : Nat} {get : Nat -> Nat -> AV} {i : Nat} (h : i < n) : zyg V (rdW V (.lst sz n get)) i = V.rd (get i) := by
 rw [zi4 (by rw [zqj]; exact h)]
 simp [rdW]
theorem yly {α : Type} {V : Vw α} (K : ybh V) {h : Array Obj} {D : Nat -> Prop} {μ : Mu} {x : AV} {v : Value} (ho : okW V x) (r : R h D μ x v) : R h D μ (zv6 std V (rdW V x)) v := by
 match x, ho with
 | .nils, _ => cases r; exact .lst0 _ _ none 0 (fun _ => rfl)
 | .lst sz n get, ho =>
   obtain ⟨rfl, ho⟩ := ho
   have e : zv6 std V (rdW V (.lst V.sz n get)) = .lst V.sz n (getW std V (rdW V (.lst V.sz n get))) := by
     show AV.lst V.sz (zfl (rdW V (.lst V.sz n get))) _ = _
     rw [show zfl (rdW V (.lst V.sz n get)) = n from zqj _ _ _ _]
   rw [e]
   cases r with
   | lst0 _ _ a cap hn => exact .lst0 _ _ a cap hn
   | lst _ _ _ b o cap vs hD hc hv h1 hr =>
     refine .lst _ _ _ b o cap vs hD hc hv h1 (fun i j hi hj => ?_)
     show R h D zap (V.cell std (zyg V (rdW V (.lst V.sz n get)) i) j) (vs i j)
     rw [yfj hi]
     exact K.turn _ (ho i hi) j hj _ _ _ _ (hr i j hi hj)
theorem zse {α : Type} {V : Vw α} (K : ybh V) {n : Nat} {get : Nat -> Nat -> AV} {l : List α} (hn : n = l.length) (h : ∀ i j, i < n -> j < V.sz -> get i j = V.cell std (zyg V l i) j) : okW V (.lst V.sz n get) /\ rdW V (.lst V.sz n get) = l := by
 subst hn
 refine ⟨⟨rfl, fun i hi => (K.back _ _ (fun j hj => h i j hi hj)).1⟩, ?_⟩
 apply List.ext_getElem
 · rw [zqj]
 · intro i h1 h2
   have := yfj (V := V) (sz := V.sz) (get := get) h2
   rw [zi4 h1] at this
   rw [this, (K.back _ _ (fun j hj => h i j h2 hj)).2, zi4 h2]
theorem zxv {α : Type} {V : Vw α} (K : ybh V) (l : List α) : okW V (zv6 std V l) /\ rdW V (zv6 std V l) = l := zse K rfl (fun i j hi hj => rfl)
theorem ynt {α : Type} {V : Vw α} (K : ybh V) {P : Program} {f : FuncId} {x r : AV} {xs : List AV} (ho : okW V x) (h : zac P f (zv6 std V (rdW V x) :: xs) r) : zac P f (x :: xs) r :=
 ykc (fun hp D vs hr => by
   refine ⟨by rw [<- hr.1]; rfl, fun i z v hz hv => ?_⟩
   cases i with
   | zero => cases hz; exact yly K ho (hr.2 0 x v rfl hv)
   | succ i => exact hr.2 (i + 1) z v hz hv) h
def isS (x : AV) : Prop := ∃ s, x = .str s
def isI (k : IntKind) (x : AV) : Prop := ∃ n, x = .int k n
theorem yir {k : IntKind} {x : AV} (h : isI k x) {hp : Array Obj} {D : Nat -> Prop} {μ : Mu} {v : Value} (r : R hp D μ x v) : R hp D μ (.int k x.toI) v := by obtain ⟨s, rfl⟩ := h; exact r
def zpc {α : Type} (p : α -> Bool) : List α -> Int
 | [] => -1
 | x :: l => if p x = true then 0 else if zpc p l < 0 then -1 else zpc p l + 1
theorem zzo {α : Type} (p : α -> Bool) : ∀ l : List α, -1 <= zpc p l /\ zpc p l < l.length
 | [] => by simp [zpc]
 | x :: l => by
   have ih := zzo p l
   rw [List.length_cons]
   unfold zpc
   split
   · omega
   · split <;> omega
theorem zzp {α : Type} {p : α -> Bool} : ∀ {l : List α} {i : Nat} (hi : i < l.length), (∀ k (hk : k < i), p (l[k]'(by omega)) = false) -> p l[i] = true -> zpc p l = i
 | [], i, hi, _, _ => by simp at hi
 | x :: l, 0, hi, _, h => by simp at h; simp [zpc, h]
 | x :: l, i + 1, hi, h0, h => by
   have hx : p x = false := by simpa using h0 0 (by omega)
   have ih := zzp (p := p) (l := l) (i := i) (by simpa using hi) (fun k hk => by have := h0 (k + 1) (by omega); simpa using this) (by simpa using h)
   rw [zpc, if_neg (by rw [hx]; decide), if_neg (by omega), ih]; simp
theorem zzn {α : Type} {p : α -> Bool} : ∀ {l : List α}, (∀ x ∈ l, p x = false) -> zpc p l = -1
 | [], _ => rfl
 | x :: l, h => by
   have hx := h x (by simp)
   have ih := zzn (p := p) (l := l) (fun y hy => h y (by simp [hy]))
   rw [zpc, if_neg (by rw [hx]; decide), if_pos (by omega)]
def zqr {α : Type} (p : α -> Bool) (l : List α) (i : Nat) : Prop := i <= l.length /\ ∀ x ∈ l.take i, p x = false
theorem yhz {α : Type} (p : α -> Bool) (l : List α) : zqr p l 0 := ⟨Nat.zero_le _, fun x hx => by simp at hx⟩
theorem zv1 {α : Type} {V : Vw α} {p : α -> Bool} {l : List α} {i : Nat} (h : zqr p l i) (hi : i < l.length) (hp : p (zyg V l i) = false) : zqr p l (i + 1) := by
 refine ⟨hi, fun x hx => ?_⟩
 rw [List.take_succ_eq_append_getElem hi, List.mem_append] at hx
 rcases hx with hx | hx
 · exact h.2 x hx
 · rw [List.mem_singleton.1 hx, <- zi4 (V := V) hi]; exact hp
theorem zyj {α : Type} {V : Vw α} {p : α -> Bool} {l : List α} {i : Nat} (h : zqr p l i) (hi : i < l.length) (hp : p (zyg V l i) = true) : zpc p l = i := by
 rw [zi4 hi] at hp
 refine zzp hi (fun k hk => h.2 _ ?_) hp
 rw [List.mem_take_iff_getElem]
 exact ⟨k, by omega, rfl⟩
theorem zyk {α : Type} {p : α -> Bool} {l : List α} {i : Nat} (h : zqr p l i) (hi : ¬ i < l.length) : zpc p l = -1 := by
 have := h.2
 rw [List.take_of_length_le (by omega)] at this
 exact zzn this
theorem ym6 {P : Program} {f : FuncId} {sz n : Nat} {get : Nat -> Nat -> AV} {xs : List AV} {O : List (Nat × Ob)} {r : AV} {O1 : List (Nat × Ob)} (h1 : 0 < n -> zan P f (.lst sz n get :: xs) O r O1) (h2 : n = 0 -> zan P f (.nils :: xs) O r O1) (h3 : n = 0 -> zan P f (.emp :: xs) O r O1) : zan P f (.lst sz n get :: xs) O r O1 := by
 by_cases h0 : 0 < n
 · exact h1 h0
 obtain rfl : n = 0 := by omega
 intro D w μ vs hD hxs
 obtain ⟨v, hv⟩ : ∃ v, vs[0]? = some v := by
   have := hxs.1
   simp at this
   exact ⟨vs[0], by simp⟩
 have hr := hxs.2 0 _ v rfl hv
 have other : ∀ y, R w.heap D μ y v -> RL w.heap D μ (y :: xs) vs := fun y hy => ⟨hxs.1, fun i z u hz hu => by
   cases i with
   | zero => cases hz; rw [hv] at hu; cases hu; exact hy
   | succ i => exact hxs.2 (i + 1) z u hz hu⟩
 cases hr with
 | lst0 _ _ a cap hn =>
   cases a with
   | none =>
     have := hn rfl
     subst this
     exact h2 rfl D w μ vs hD (other _ .nils)
   | some a => exact h3 rfl D w μ vs hD (other _ (.emp a cap))
 | lst _ _ _ b o cap ws hD' hc hv' h1' hr' => exact h3 rfl D w μ vs hD (other _ (.emp _ cap))
def upN (n : Nat) : Prop := n <= 1000000
def yaj (f ty sz : Nat) (L : za9) : zfp := (f, fun raw ob => match raw with
 | [.lst s n get] => match zal s sz with
   | true => some ⟨[.lst sz n get], [], L upN n, .sl 900 sz 0 n, [(900, .row ty sz n get)]⟩
   | false => none
 | _ => none)
def zy8 (f : Nat) : zfp := (f, fun raw ob => match raw with
 | [.sl a sz off n, .slc b sz' off' n' cap] => match ob a, ob b with
   | some (.row ty _ k get), some (.row ty' _ k' get') => match zbc 1 sz, zal sz sz' with
     | true, true => some ⟨[.sl 500000 sz off n, .slc 500001 sz off' n' cap], [(500000, .row ty sz k get), (500001, .row ty' sz k' get')], True, .bool false, [(500000, .row ty sz k get), (500001, .row ty' sz k' get')]⟩
     | _, _ => none
   | _, _ => none
 | _ => none)
theorem zzk (i j k n : Int) : (yg6 i j k n = true) = (0 <= i /\ i <= j /\ j <= k /\ k <= n) := by simp [yg6, and_assoc]
theorem yms (a : Int) (n : Nat) : gei std (some a) n = a := rfl
theorem ymt (n : Nat) : gei std none n = (n : Int) := rfl
theorem yfu (a b : Nat) : (zbd a b = true) = (a <= b) := zci
theorem yfs (a b : Nat) : (zbc a b = true) = (a < b) := zbl
theorem yfv (a b : Nat) : (zbd a b = false) = (b < a) := by simp [zbd]
theorem yft (a b : Nat) : (zbc a b = false) = (b <= a) := by simp [zbc]
theorem yco (m n : Nat) : (zof m n = true) = (0 < n /\ m <= n) := by simp [zof, zbc, zbd]
theorem ygj (a b : Nat) : Nat.add a b = a + b := rfl
theorem yfa (a b : Nat) : Nat.sub a b = a - b := rfl
theorem zwt (c : Bool) (x y : AV) : zmp c x y = if c = true then x else y := by cases c <;> rfl
theorem yh9 (sz : Nat) (h : 1 < sz) (c : Bool) (x y : AV) : ybo std sz c x y = if c = true then x else y := by
 unfold ybo
 split
 · omega
 · cases c <;> rfl
theorem zwv (off n e : Nat) : (zd0 off n e = true) = (off <= e /\ e < off + n) := by simp [zd0, zbd, zbc]
theorem ym4 (a b : Nat) : Nat.min a b = min a b := rfl
def yg5 (get gv : Nat -> Nat -> AV) (i : Nat) : Nat -> Nat -> AV := fun q j => if q < i then get q j else if q = i then gv 0 j else get (q - 1) j
def ye6 (n : Nat) (i : Int) : Prop := n <= 1000000 /\ 0 <= i /\ i <= n
def ypt (f ty sz : Nat) (L : za9) : zfp := (f, fun raw ob => match raw with
 | [.sl a s 0 n, .int .i64 i, .sl b s' 0 1] => match ob a, ob b, zal s sz, zal s' sz with
   | some (.row _ _ k get), some (.row _ _ _ gv), true, true => some ⟨[.sl 500000 sz 0 n, .int .i64 i, .sl 500001 sz 0 1], [(500000, .row ty sz n get), (500001, .row ty sz 1 gv)], L2 L ye6 n i, .sl 900 sz 0 (L2 L Nat.add n 1), [(900, .row ty sz (L2 L Nat.add n 1) (L3 L yg5 get gv (L Int.toNat i)))]⟩
   | _, _, _, _ => none
 | _ => none)
theorem zft {P : Program} {w : World} {tS tR e sz : Nat} (ht : P.underlying tS = some (.slice e)) (hz : ∀ w, (Go.sizeOf e).run P w = .ok sz w) {a b : Option Addr} {la ca lb cb : Nat} (h : la = 0 \/ lb = 0) :
   (Extern.SlicesOverlaps.overlaps #[tS, tS] #[tR] #[.slice a la ca, .slice b lb cb]).run P w = .ok (.bool false) w := by
 have h' : la = 0 \/ lb = 0 \/ sz = 0 := by rcases h with h | h; exact .inl h; exact .inr (.inl h)
 change Sem.run P (α := Value) (do
   let some t := (#[tS, tS] : Array TypeId)[0]? | stuck "slices.overlaps: no parameter types"
   let .slice elem <- underlying t | stuck "slices.overlaps: slice type expected"
   let size <- sizeOf elem
   match a, b with
   | some a, some b =>
     if la = 0 \/ lb = 0 \/ size = 0 then pure (Value.bool false)
     else if a.block != b.block && (<- frozen a) && (<- frozen b) then unsupported .addressObserved
     else do
       if a.block != b.block then do
         noView a; noView b
         if <- mayBeOne a b then return Value.bool ((<- choose (.extern "sameAddr.stringBytes" 2)) == 1)
       pure (Value.bool (a.block == b.block && a.off < b.off + lb * size && b.off < a.off + la * size))
   | _, _ => pure (Value.bool false)) w = _
 cases a <;> cases b <;> simp [run_underlying ht, hz, h']
theorem ycx {P : Program} {f : FuncId} {fn : Func} {tS tR e esz : Nat} (hf : P.funcs[f]? = some fn) (hn : (fn.name == "runtime.NumGoroutine") = false) (hb : fn.body.isNone = true) (hnx : Extern.findNext fn = none) (hx : Extern.find fn = some (Extern.SlicesOverlaps.overlaps #[tS, tS] #[tR]))
   (ht : P.underlying tS = some (.slice e)) (hz : ∀ w, (Go.sizeOf e).run P w = .ok esz w) : zcc P (zy8 f) := by
 intro raw ob T hT hp
 unfold zy8 at hT
 simp only at hT
 repeat' split at hT
 all_goals first | (cases hT; done) | skip
 rename_i a sz off n b sz' off' n' cap _ _ ty szr k get ty' szr' k' get' he1 he2 _ _ hs hsz
 obtain rfl := za4 hsz
 have hs := zc2 hs
 cases hT
 intro D w μ vs hD hxs hdom hobs hinj hown hg hgb
 obtain ⟨v, u, hv⟩ : ∃ v u, vs.toList = [v, u] := by
   have hl : vs.toList.length = 2 := by simpa using hxs.1.symm
   match vs.toList, hl with
   | [a, b], _ => exact ⟨a, b, rfl⟩
 have : vs = #[v, u] := by rw [<- Array.toArray_toList (xs := vs), hv]
 subst this
 have r1 : R w.heap D μ (.sl 500000 sz off n) v := hxs.2 0 _ v rfl rfl
 have r2 : R w.heap D μ (.slc 500001 sz off' n' cap) u := hxs.2 1 _ u rfl rfl
 have key : (Extern.SlicesOverlaps.overlaps #[tS, tS] #[tR] #[v, u]).run P w = .ok (.bool false) w := by
   have r3 := r2.less
   cases r1 with
   | slv _ _ ad hm => cases r3 <;> exact zft ht hz (.inl rfl)
   | sl0 _ _ _ b z m o hm ho => cases r3 <;> exact zft ht hz (.inl rfl)
   | sl _ _ _ _ b1 z1 m1 cap1 hm1 hn1 hz1 ho1 =>
     cases r3 with
     | slv _ _ ad hm => exact zft ht hz (.inr rfl)
     | sl0 _ _ _ b z m o hm ho => exact zft ht hz (.inr rfl)
     | sl _ _ _ _ b2 z2 m2 cap2 hm2 hn2 hz2 ho2 =>
       by_cases h0 : n = 0 \/ n' = 0
       · exact zft ht hz h0
       obtain ⟨_, C1, t1, fr1, hh1, hc1, hf1, hl1, hr1⟩ := hobs 500000 (.row ty sz k get) _ rfl hm1
       obtain ⟨_, C2, t2, fr2, hh2, hc2, hf2, hl2, hr2⟩ := hobs 500001 (.row ty' sz k' get') _ rfl hm2
       have hne : b1 ≠ b2 := by
         rintro rfl
         have := hinj 500000 500001 b1 _ _ hm1 hm2
         omega
       have hfr := hf1.2.2.2 hs
       have hin : off * sz < z1 := by
         have h1 : (off + 1) * sz <= (off + cap1) * sz := Nat.mul_le_mul_right _ (by omega)
         rw [Nat.add_mul] at h1
         omega
       have hpos : 0 < z2 := by
         have h1 : 1 * sz <= (off' + cap2) * sz := Nat.mul_le_mul_right _ (by omega)
         omega
       have fz : ∀ o, o <= z1 -> w.frozen? { block := b1, off := o, spot := none } = false := by
         intro o ho
         have := hfr o (by omega)
         simp only [World.frozen?, hh1]
         simp only [Bool.and_eq_false_iff, decide_eq_false_iff_not]
         omega
       exact Lib.run_overlaps_apart w tS tR e ht esz hz ⟨b1, off * sz, none⟩ ⟨b2, off' * sz, none⟩ n cap1 n' cap2 hne t1 t2 C1.size C2.size (by simp [World.shape?, hh1]) (by simp [World.shape?, hh2]) (by omega) (fz _ (by omega)) (fz _ (by omega))
 unfold ze5
 rw [show (zy8 f).fst = f from rfl, run_callFunc_extern hf hn hb hnx hx, key]
 exact ⟨_, D, μ, { ret := rfl, os := rfl, tape := rfl, output := rfl, size := Nat.le_refl _, old := fun _ _ _ => rfl, up := fun _ h => h, dn := fun _ h => .inl h, dom := hdom, obs := hobs, inj := hinj, own := fun n b z h => ⟨(hown n b z h).1, (hown n b z h).2, .inr ⟨n, z, h⟩⟩, keep := fun _ _ _ => rfl, val := .bool _ }⟩
def zq8 (get : Nat -> Nat -> AV) (i : Nat) : Nat -> Nat -> AV := fun q j => if q < i then get q j else get (q + 1) j
def yeq (n : Nat) (i j : Int) : Prop := n <= 1000000 /\ 0 <= i /\ i < n /\ j = i + 1
def zfr (n : Nat) : Nat := n - 1
def yq3 (f ty sz : Nat) (L : za9) : zfp := (f, fun raw ob => match raw with
 | [.sl a s 0 n, .int .i64 i, .int .i64 j] => match ob a, zal s sz with
   | some (.row _ _ k get), true => some ⟨[.sl 500000 sz 0 n, .int .i64 i, .int .i64 j], [(500000, .row ty sz n get)], L3 L yeq n i j, .sl 900 sz 0 (L zfr n), [(900, .row ty sz (L zfr n) (L2 L zq8 get (L Int.toNat i)))]⟩
   | _, _ => none
 | _ => none)
def zeg (n : Int) : Prop := 0 <= n /\ n < 18446744073709551616
def zbb (n : Int) : List UInt8 := zdh n.toNat
def zhy (L : za9) : zcw := (70, fun xs => match xs with | [.int .u64 n] => some (L zeg n, .str (L zbb n)) | _ => none)
theorem zg7 : zdd Tryz.prog (zhy std) := by
 intro xs p r h hp
 dsimp only [zhy] at h |-
 split at h <;> cases h
 try simp only [L2, L3, std] at hp |-
 rename_i n
 obtain ⟨h0, h1⟩ : zeg n := hp
 obtain ⟨k, rfl⟩ := zym h0
 exact ze4 (fn := Tryz.f70) rfl rfl (by kernel_rfl) (yka (zh1 _ _)) (fun h D => zwm h D _ _) (fun w => zwr k w (by omega))
theorem zvr : zac Tryz.prog 71 [] (.bool true) := by
 refine zaa (T := tt) (S := fun L => zbf [zhy L, zuv L]) (lo := noA) (lb := noA) 5 (fn := Tryz.f71) rfl rfl (by kernel_rfl) (by kernel_rfl) rfl zae (za7 ⟨zg7, zj4, trivial⟩) (by kernel_rfl) ?_
 (intro L P1 Q1 hL hP hQ; cbv; subst hL; simp only [L2, L3, std, syT]; subst hQ)
 (simp only [syS, reduceCtorEq, Int.reduceToNat, Int.reduceAdd, Int.reduceSub])
 exact ⟨by unfold zeg; omega, fun _ => ⟨by unfold yct; omega, by decide +kernel⟩, by rw [zbb, show (300 : Int).toNat = 300 from rfl, zg8 (by decide), zbt (by decide)]; rfl⟩
def tru (f : Nat) : zcw := (f, fun xs => match xs with | [] => some (True, .bool true) | _ => none)
theorem zby {P : Program} {f : Nat} (h : zac P f [] (.bool true)) : zdd P (tru f) := by
 intro xs p r h' hp
 match xs with
 | [] => cases h'; exact h
 | x :: xs => cases h'
theorem zij : zac Tryz.prog 56 [] (.bool true) := by
 refine zaa (T := tt) (S := fun L => zbf [tru 71]) (lo := noA) (lb := noA) 5 (fn := Tryz.f56) rfl rfl (by kernel_rfl) (by kernel_rfl) rfl zae (za7 ⟨zby zvr, trivial⟩) (by kernel_rfl) ?_
 (intro L P1 Q1 hL hP hQ; cbv; subst hL; simp only [L2, L3, std, syT]; subst hQ)
 (simp only [syS, reduceCtorEq, Int.reduceToNat, Int.reduceAdd, Int.reduceSub])
def zkb : zfp := (91, fun raw ob => match raw with
 | [.ref id 0] => match ob id with
   | some (.box ty cs) => some ⟨[.ref 500000 0], [(500000, .box ty cs)], True, .ref 500000 0, [(500000, .box ty cs)]⟩
   | _ => none
 | _ => none)
theorem zlt : zcc Tryz.prog zkb := by
 intro raw ob T hT hp
 unfold zkb at hT
 simp only at hT
 split at hT
 · split at hT
   · cases hT
     intro D w μ vs hD hxs hdom hobs hinj hown hg hgb
     obtain ⟨v, hv⟩ : ∃ v, vs.toList = [v] := List.length_eq_one_iff.1 (by simpa using hxs.1.symm)
     have : vs = #[v] := by rw [<- Array.toArray_toList (xs := vs), hv]
     subst this
     unfold ze5
     rw [show zkb.fst = 91 from rfl, run_callFunc_extern (fn := Tryz.f91) rfl (by kernel_rfl) (by kernel_rfl) (by kernel_rfl) (e := Extern.AbiNoEscape.same) (by kernel_rfl)]
     rw [Lib.run_noEscape]
     exact ⟨v, D, μ, { ret := rfl, os := rfl, tape := rfl, output := rfl, size := Nat.le_refl _, old := fun _ _ _ => rfl, up := fun _ h => h, dn := fun _ h => .inl h, dom := hdom, obs := hobs, inj := hinj, own := fun n b z h => ⟨(hown n b z h).1, (hown n b z h).2, .inr ⟨n, z, h⟩⟩, keep := fun _ _ _ => rfl, val := hxs.2 0 _ _ rfl rfl }⟩
   · cases hT
 · cases hT
def yjr : zfp := (78, fun raw ob => match raw with
 | [.ref id 0] => match ob id with
   | some (.box _ [.nilp, .nils]) => some ⟨[.ref 500000 0], [(500000, .box 97 [.nilp, .nils])], True, .tup [], [(500000, .box 97 [.ref 500000 0, .nils])]⟩
   | some (.box _ [.ref _ 0, .sl k 1 0 n]) => match ob k with
     | some (.row _ 1 m get) => some ⟨[.ref 500000 0], [(500000, .box 97 [.ref 500000 0, .sl 500001 1 0 m]), (500001, .row 5 1 m get)], True, .tup [], [(500000, .box 97 [.ref 500000 0, .sl 500001 1 0 m]), (500001, .row 5 1 m get)]⟩
     | _ => none
   | _ => none
 | _ => none)
theorem yne : zan Tryz.prog 78 [.ref 500000 0] [(500000, .box 97 [.nilp, .nils])] (.tup []) [(500000, .box 97 [.ref 500000 0, .nils])] := by
 refine zaj (T := tt) (S := fun L => zb0 [] [zkb]) (lo := noA) (lb := noA) 5 (fn := Tryz.f78) (xs := fun L => [.ref 500000 0]) (rts := fun _ => []) (O := fun L => [(500000, .box 97 [.nilp, .nils])]) (O1 := fun L => [(500000, .box 97 [.ref 500000 0, .nils])])
   rfl rfl (by kernel_rfl) (by kernel_rfl) (by kernel_rfl) zae (za8 trivial ⟨zlt, trivial⟩) (by kernel_rfl) ?_
 intro L P' Q' hL hP hQ
 (cbv; try simp only [syT, true_and, and_true])
 exact ⟨fun _ => trivial, fun h => by cases h⟩
theorem ynd (m : Nat) (get : Nat -> Nat -> AV) : zan Tryz.prog 78 [.ref 500000 0] [(500000, .box 97 [.ref 500000 0, .sl 500001 1 0 m]), (500001, .row 5 1 m get)] (.tup []) [(500000, .box 97 [.ref 500000 0, .sl 500001 1 0 m]), (500001, .row 5 1 m get)] := by
 refine zaj (T := tt) (S := fun L => zb0 [] [zkb]) (lo := noA) (lb := noA) 5 (fn := Tryz.f78) (xs := fun L => [.ref 500000 0]) (rts := fun _ => []) (O := fun L => [(500000, .box 97 [.ref 500000 0, .sl 500001 1 0 m]), (500001, .row 5 1 m get)]) (O1 := fun L => [(500000, .box 97 [.ref 500000 0, .sl 500001 1 0 m]), (500001, .row 5 1 m get)])
   rfl rfl (by kernel_rfl) (by kernel_rfl) (by kernel_rfl) zae (za8 trivial ⟨zlt, trivial⟩) (by kernel_rfl) ?_
 intro L P' Q' hL hP hQ
 (cbv; try simp only [syT, true_and, and_true])
 subst hL
 simp [std]
theorem zl3 : zcc Tryz.prog yjr := by
 intro raw ob T hT hp
 unfold yjr at hT
 simp only at hT
 repeat' split at hT
 all_goals first | (cases hT; done) | (cases hT; exact yne) | (cases hT; exact ynd _ _)
def bld (L : za9) (l : List UInt8) : List (Nat × Ob) := [(500000, .box 97 [.ref 500000 0, .sl 500001 1 0 (L lenN l)]), (500001, .row 5 1 (L lenN l) (fun i _ => .int .u8 (L2 L zat l i)))]
def zrt (L : za9) (l : List UInt8) : List (Nat × Ob) := [(500000, .box 97 [.ref 500000 0, .sl 7 1 0 (L lenN l)]), (7, .row 5 1 (L lenN l) (fun i _ => .int .u8 (L2 L zat l i)))]
def ykq : List (Nat × Ob) := [(500000, .box 97 [.nilp, .nils])]
def yb9 (L : za9) (ob : Nat -> Option Ob) (id : Nat) : Option (Option (List UInt8)) := match ob id with
 | some (.box _ [.nilp, .nils]) => some none
 | some (.box _ [.ref _ 0, .sl k 1 0 n]) => match ob k with
   | some (.row _ 1 m get) => some (some (L2 L bytesOf m (fun i => (get i 0).toI)))
   | _ => none
 | _ => none
def za6 (l m : List UInt8) : List UInt8 := l ++ m
def zc5 (c : Int) : List UInt8 := [UInt8.ofNat c.toNat]
def yl2 (c : Int) : Prop := 0 <= c /\ c < 256
def zf8 (l m : List UInt8) : Prop := l.length + m.length <= 90000000
def ynz (L : za9) : zfp := (68, fun raw ob => match raw with
 | [.ref id 0, .int .u8 c] => match yb9 L ob id with
   | some none => some ⟨[.ref 500000 0, .int .u8 c], ykq, L yl2 c, .dead, zrt L (L zc5 c)⟩
   | some (some l) => some ⟨[.ref 500000 0, .int .u8 c], bld L l, L yl2 c /\ L2 L zf8 l (L zc5 c), .dead, zrt L (L2 L za6 l (L zc5 c))⟩
   | none => none
 | _ => none)
def ynx (L : za9) : zfp := (69, fun raw ob => match raw with
 | [.ref id 0, .str s] => match yb9 L ob id with
   | some (some l) => some ⟨[.ref 500000 0, .str s], bld L l, L2 L zf8 l s, .tup [.int .i64 (L slen s), .dead], zrt L (L2 L za6 l s)⟩
   | _ => none
 | _ => none)
def yqi (L : za9) : zfp := (54, fun raw ob => match raw with
 | [.ref id 0] => match yb9 L ob id with
   | some (some l) => some ⟨[.ref 500000 0], bld L l, L (fun l => l ≠ [] /\ l.length <= 90000000) l, .str l, []⟩
   | _ => none
 | _ => none)
def yqj (L : za9) : zfp := (53, fun raw ob => match raw with
 | [.ref id 0] => match yb9 L ob id with
   | some (some l) => some ⟨[.ref 500000 0], bld L l, True, .int .i64 (L slen l), bld L l⟩
   | _ => none
 | _ => none)
theorem zny {l m : List UInt8} {i : Nat} (h : i < l.length) : zat (l ++ m) i = zat l i := by
 simp [zat, List.getElem?_append_left h]
theorem znx {l m : List UInt8} {i : Nat} (h : ¬ i < l.length) : zat (l ++ m) i = zat m (i - l.length) := by
 simp [zat, List.getElem?_append_right (show l.length <= i by omega)]
theorem zez (l : List UInt8) : bytesOf l.length (fun i => zat l i) = l := by
 apply List.ext_getElem
 · simp [bytesOf]
 · intro i h1 h2
   simp [bytesOf, zat, h2]
theorem ztw {c : Int} (hc : yl2 c) (i : Nat) (h : i < 1) : za1 [c] i = zat (zc5 c) i := by
 have : i = 0 := by omega
 subst this
 obtain ⟨h0, h1⟩ := hc
 simp [za1, zat, zc5, UInt8.toNat_ofNat']
 omega
theorem ykz (c : Int) (hc : yl2 c) : zan Tryz.prog 68 [.ref 500000 0, .int .u8 c] ykq .dead (zrt std (zc5 c)) := by
 refine zaj (T := tt) (S := fun L => zb0 [] [yjr]) (lo := noA) (lb := noA) 5 (fn := Tryz.f68) (xs := fun L => [.ref 500000 0, .int .u8 c]) (rts := fun _ => [.dead]) (O := fun L => ykq) (O1 := fun L => zrt L (L zc5 c))
   rfl rfl (by kernel_rfl) (by kernel_rfl) (by kernel_rfl) zae (za8 trivial ⟨zl3, trivial⟩) (by kernel_rfl) ?_
 intro L P' Q' hL hP hQ
 (cbv; try simp only [syT, true_and, and_true])
 subst hL
 simp only [L2, L3, std, zj3]
 have h1 : lenN (zc5 c) = 1 := rfl
 rw [h1]
 exact ⟨by omega, ⟨rfl, fun i j hi hj => by rw [show Nat.add 0 i = i from Nat.zero_add i, ztw hc i hi]⟩, rfl⟩
theorem yky (l : List UInt8) (c : Int) (hc : yl2 c) (hl : zf8 l (zc5 c)) : zan Tryz.prog 68 [.ref 500000 0, .int .u8 c] (bld std l) .dead (zrt std (za6 l (zc5 c))) := by
 refine zaj (T := tt) (S := fun L => zb0 [] [yjr]) (lo := noA) (lb := noA) 5 (fn := Tryz.f68) (xs := fun L => [.ref 500000 0, .int .u8 c]) (rts := fun _ => [.dead]) (O := fun L => bld L l) (O1 := fun L => zrt L (L2 L za6 l (L zc5 c)))
   rfl rfl (by kernel_rfl) (by kernel_rfl) (by kernel_rfl) zae (za8 trivial ⟨zl3, trivial⟩) (by kernel_rfl) ?_
 intro L P' Q' hL hP hQ
 (cbv; try simp only [syT, true_and, and_true])
 subst hL
 simp only [L2, L3, std, zj3]
 have h1 : lenN (za6 l (zc5 c)) = l.length + 1 := by simp [lenN, za6, zc5]
 have h2 : (zc5 c).length = 1 := rfl
 have hl : l.length + (zc5 c).length <= 90000000 := hl
 have h3 : lenN l = l.length := rfl
 rw [h1, h3]
 refine ⟨fun _ _ _ _ => trivial, by omega, ⟨rfl, fun i j hi hj => ?_⟩, rfl⟩
 by_cases h : i < l.length
 · rw [zvk h, show za6 l (zc5 c) = l ++ zc5 c from rfl, zny h]; rfl
 · rw [yk7 h, show za6 l (zc5 c) = l ++ zc5 c from rfl, znx h]
   show AV.int .u8 (za1 [c] (Nat.add 0 (i - l.length))) = _
   rw [show Nat.add 0 (i - l.length) = i - l.length from Nat.zero_add _, ztw hc _ (by omega)]
theorem yku (l s : List UInt8) (hl : zf8 l s) : zan Tryz.prog 69 [.ref 500000 0, .str s] (bld std l) (.tup [.int .i64 (slen s), .dead]) (zrt std (za6 l s)) := by
 refine zaj (T := tt) (S := fun L => zb0 [] [yjr]) (lo := noA) (lb := noA) 5 (fn := Tryz.f69) (xs := fun L => [.ref 500000 0, .str s]) (rts := fun L => [.int .i64 (L slen s), .dead]) (O := fun L => bld L l) (O1 := fun L => zrt L (L2 L za6 l s))
   rfl rfl (by kernel_rfl) (by kernel_rfl) (by kernel_rfl) zae (za8 trivial ⟨zl3, trivial⟩) (by kernel_rfl) ?_
 intro L P' Q' hL hP hQ
 (cbv; try simp only [syT, true_and, and_true])
 subst hL
 simp only [L2, L3, std, zj3]
 have h1 : lenN (za6 l s) = l.length + s.length := by simp [lenN, za6]
 have hl : l.length + s.length <= 90000000 := hl
 have h3 : lenN l = l.length := rfl
 rw [h1, h3]
 refine ⟨fun _ _ _ _ => trivial, by omega, ⟨rfl, fun i j hi hj => ?_⟩, rfl⟩
 by_cases h : i < l.length
 · rw [zvk h, show za6 l s = l ++ s from rfl, zny h]; rfl
 · rw [yk7 h, show za6 l s = l ++ s from rfl, znx h]; rfl
theorem yni (l : List UInt8) (h0 : l ≠ []) (hl : l.length <= 90000000) : zan Tryz.prog 54 [.ref 500000 0] (bld std l) (.str l) [] := by
 refine zaj (T := tt) (S := fun L => zb0 [] [yjr]) (lo := noA) (lb := noA) 5 (fn := Tryz.f54) (xs := fun L => [.ref 500000 0]) (rts := fun L => [.str l]) (O := fun L => bld L l) (O1 := fun L => [])
   rfl rfl (by kernel_rfl) (by kernel_rfl) (by kernel_rfl) zae (za8 trivial ⟨zl3, trivial⟩) (by kernel_rfl) ?_
 intro L P' Q' hL hP hQ
 (cbv; try simp only [syT, true_and, and_true])
 subst hL
 simp only [L2, L3, std]
 have h3 : lenN l = l.length := rfl
 have h1 : 0 < l.length := List.length_pos_iff.2 h0
 refine ⟨zvk h1, ⟨by show (0 : Int) < (l.length : Int); omega, by show (l.length : Int) <= (l.length : Int); omega, by show (l.length : Int) <= _; omega, fun i hi => ⟨_, rfl, ?_, ?_⟩⟩, zez l⟩
 · simp [zat]
 · have := UInt8.toNat_lt (l.getD i 0)
   show ((l.getD i 0).toNat : Int) < 256
   omega
theorem ynk (l : List UInt8) : zan Tryz.prog 53 [.ref 500000 0] (bld std l) (.int .i64 (slen l)) (bld std l) := by
 refine zaj (T := tt) (S := fun L => zb0 [] [yjr]) (lo := noA) (lb := noA) 5 (fn := Tryz.f53) (xs := fun L => [.ref 500000 0]) (rts := fun L => [.int .i64 (L slen l)]) (O := fun L => bld L l) (O1 := fun L => bld L l)
   rfl rfl (by kernel_rfl) (by kernel_rfl) (by kernel_rfl) zae (za8 trivial ⟨zl3, trivial⟩) (by kernel_rfl) ?_
 intro L P' Q' hL hP hQ
 (cbv; try simp only [syT, true_and, and_true])
 subst hL
 exact ⟨fun _ _ _ _ => trivial, rfl⟩
theorem zwa : zcc Tryz.prog (ynz std) := by
 intro raw ob T hT hp
 unfold ynz at hT
 simp only at hT
 repeat' split at hT
 all_goals first | (cases hT; done) | (cases hT; exact ykz _ hp) | (cases hT; exact yky _ _ hp.1 hp.2)
theorem zw5 : zcc Tryz.prog (ynx std) := by
 intro raw ob T hT hp
 unfold ynx at hT
 simp only at hT
 repeat' split at hT
 all_goals first | (cases hT; done) | (cases hT; exact yku _ _ hp)
theorem yk5 : zcc Tryz.prog (yqi std) := by
 intro raw ob T hT hp
 unfold yqi at hT
 simp only at hT
 repeat' split at hT
 all_goals first | (cases hT; done) | (cases hT; exact yni _ hp.1 hp.2)
theorem yk8 : zcc Tryz.prog (yqj std) := by
 intro raw ob T hT hp
 unfold yqj at hT
 simp only at hT
 repeat' split at hT
 all_goals first | (cases hT; done) | (cases hT; exact ynk _)
inductive CV where
 | mk (k n : Int) (s : List UInt8) (l : List CV)
namespace CV
def kd : CV -> Int
 | mk k _ _ _ => k
def nn : CV -> Int
 | mk _ n _ _ => n
def tx : CV -> List UInt8
 | mk _ _ s _ => s
def ls : CV -> List CV
 | mk _ _ _ l => l
theorem eta (v : CV) : mk v.kd v.nn v.tx v.ls = v := by cases v; rfl
end CV
def zf3 (l : List CV) (i : Nat) : CV := l.getD i (.mk 0 0 [] [])
def lenL (l : List CV) : Nat := l.length
def ybu (v : CV) : Nat := v.ls.length
def sizeC : CV -> Nat
 | .mk _ _ _ l => sizeCs l + 1
where sizeCs : List CV -> Nat
 | [] => 0
 | v :: l => sizeC v + sizeCs l
abbrev sizeCs := sizeC.sizeCs
theorem zem : sizeCs [] = 0 := by simp [sizeC.sizeCs]
theorem zbs (v : CV) (l : List CV) : sizeCs (v :: l) = sizeC v + sizeCs l := by simp [sizeC.sizeCs]
theorem ze9 (k n : Int) (s : List UInt8) (l : List CV) : sizeC (.mk k n s l) = sizeCs l + 1 := by rw [sizeC]
theorem zen (v : CV) : 0 < sizeC v := by cases v; rw [ze9]; omega
theorem zjx : ∀ (l : List CV) (i : Nat), i < l.length -> sizeC (zf3 l i) <= sizeCs l
 | [], i, h => by simp at h
 | v :: l, 0, h => by rw [zbs]; show sizeC v <= _; omega
 | v :: l, i + 1, h => by
   have := zjx l i (by simpa using h)
   rw [zbs]
   show sizeC (zf3 l i) <= _
   omega
theorem zsr {l : List CV} {i : Nat} (h : i < l.length) : zf3 l i ∈ l := by
 rw [zf3, List.getD_eq_getElem?_getD, List.getElem?_eq_getElem h]; exact List.getElem_mem h
theorem ygd {p : CV -> Prop} (h : ∀ k n s l, (∀ v ∈ l, p v) -> p (.mk k n s l)) : ∀ (m : Nat) (v : CV), sizeC v <= m -> p v
 | 0, v, hv => by have := zen v; omega
 | m + 1, .mk k n s l, hv => h k n s l fun w hw => by
   rw [ze9] at hv
   obtain ⟨i, hi, rfl⟩ := List.getElem_of_mem hw
   have := zjx l i hi
   have e : zf3 l i = l[i] := by rw [zf3, List.getD_eq_getElem?_getD, List.getElem?_eq_getElem hi]; rfl
   rw [e] at this
   exact ygd h m _ (by omega)
theorem ygf {p : CV -> Prop} (h : ∀ k n s l, (∀ v ∈ l, p v) -> p (.mk k n s l)) (v : CV) : p v := ygd h _ v (Nat.le_refl _)
def dflC : Nat -> AV
 | 0 => .int .i64 0
 | 1 => .int .u64 0
 | 2 => .str []
 | _ => .lst 4 0 (fun _ _ => .dead)
mutual
def zey : CV -> Nat -> AV
 | .mk k n s l, j => match j with
   | 0 => .int .i64 k
   | 1 => .int .u64 n
   | 2 => .str s
   | _ => .lst 4 l.length (zhk l)
def zhk : List CV -> Nat -> Nat -> AV
 | [], _, j => dflC j
 | v :: l, i, j => match i with
   | 0 => zey v j
   | i + 1 => zhk l i j
end
theorem zjk (v : CV) : zey v 0 = .int .i64 v.kd := by cases v; rw [zey]; rfl
theorem zjj (v : CV) : zey v 1 = .int .u64 v.nn := by cases v; rw [zey]; rfl
theorem zji (v : CV) : zey v 2 = .str v.tx := by cases v; rw [zey]; rfl
theorem zjh (v : CV) : zey v 3 = .lst 4 v.ls.length (zhk v.ls) := by cases v; rw [zey] <;> first | rfl | (intro h; cases h)
theorem zbp : ∀ (l : List CV) (i j : Nat), i < l.length -> zhk l i j = zey (zf3 l i) j
 | [], i, j, h => by simp at h
 | v :: l, 0, j, h => by rw [zhk]; rfl
 | v :: l, i + 1, j, h => by rw [zhk]; exact zbp l i j (by simpa using h)
def yad (v : CV) : Nat -> Nat -> AV := zhk v.ls
def cv1 (L : za9) (v : CV) : Nat -> AV
 | 0 => .int .i64 (L CV.kd v)
 | 1 => .int .u64 (L CV.nn v)
 | 2 => .str (L CV.tx v)
 | _ => .lst 4 (L ybu v) (L yad v)
theorem yae (v : CV) (j : Nat) (h : j < 4) : cv1 std v j = zey v j := by
 match j, h with
 | 0, _ => rw [zjk]; rfl
 | 1, _ => rw [zjj]; rfl
 | 2, _ => rw [zji]; rfl
 | 3, _ => rw [zjh]; rfl
def cvL (L : za9) (l : List CV) : AV := .lst 4 (L lenL l) (fun i j => cv1 L (L2 L zf3 l i) j)
def cvA (L : za9) (v : CV) : AV := .agg [.int .i64 (L CV.kd v), .int .u64 (L CV.nn v), .str (L CV.tx v), .lst 4 (L ybu v) (L yad v)]
def rdL : AV -> List CV
 | .lst _ n get => (List.range n).map fun i => .mk (get i 0).toI (get i 1).toI (match get i 2 with | .str s => s | _ => []) (rdL (get i 3))
 | _ => []
def okL : AV -> Prop
 | .lst sz n get => sz = 4 /\ ∀ i, i < n -> (∃ x, get i 0 = .int .i64 x) /\ (∃ x, get i 1 = .int .u64 x) /\ (∃ x, get i 2 = .str x) /\ okL (get i 3)
 | .nils => True
 | _ => False
theorem zlo (sz n : Nat) (get : Nat -> Nat -> AV) : (rdL (.lst sz n get)).length = n := by simp [rdL]
theorem zxt {sz n : Nat} {get : Nat -> Nat -> AV} {i : Nat} (h : i < n) : zf3 (rdL (.lst sz n get)) i = .mk (get i 0).toI (get i 1).toI (match get i 2 with | .str s => s | _ => []) (rdL (get i 3)) := by
 rw [zf3, List.getD_eq_getElem?_getD, rdL]
 simp [h]
theorem yge {a b : List CV} (h : a.length = b.length) (k : ∀ i, i < a.length -> zf3 a i = zf3 b i) : a = b := by
 apply List.ext_getElem h
 intro i h1 h2
 have := k i h1
 rw [zf3, zf3, List.getD_eq_getElem?_getD, List.getD_eq_getElem?_getD, List.getElem?_eq_getElem h1, List.getElem?_eq_getElem h2] at this
 exact this
theorem yhn : ∀ v : CV, rdL (zey v 3) = v.ls /\ okL (zey v 3) := by
 refine ygf fun k n s l ih => ?_
 rw [zjh]
 show rdL (.lst 4 l.length (zhk l)) = l /\ okL (.lst 4 l.length (zhk l))
 refine ⟨yge (zlo _ _ _) fun i hi => ?_, rfl, fun i hi => ?_⟩
 · rw [zlo] at hi
   rw [zxt hi, zbp _ _ _ hi, zbp _ _ _ hi, zbp _ _ _ hi, zbp _ _ _ hi, zjk, zjj, zji, (ih _ (zsr hi)).1]
   exact CV.eta _
 · rw [zbp _ _ _ hi, zbp _ _ _ hi, zbp _ _ _ hi, zbp _ _ _ hi, zjk, zjj, zji]
   exact ⟨⟨_, rfl⟩, ⟨_, rfl⟩, ⟨_, rfl⟩, (ih _ (zsr hi)).2⟩
theorem zmt (v : CV) : rdL (.lst 4 (ybu v) (yad v)) = v.ls /\ okL (.lst 4 (ybu v) (yad v)) := by
 have := yhn v
 rw [zjh] at this
 exact this
theorem zxu (l : List CV) : rdL (cvL std l) = l /\ okL (cvL std l) := by
 refine ⟨yge (zlo _ _ _) fun i hi => ?_, rfl, fun i hi => ⟨⟨_, rfl⟩, ⟨_, rfl⟩, ⟨_, rfl⟩, (zmt _).2⟩⟩
 have hi : i < l.length := by rw [show (rdL (cvL std l)).length = lenL l from zlo _ _ _] at hi; exact hi
 show zf3 (rdL (.lst 4 (lenL l) _)) i = _
 rw [zxt (show i < lenL l from hi)]
 show CV.mk (zf3 l i).kd (zf3 l i).nn (zf3 l i).tx (rdL (.lst 4 (ybu (zf3 l i)) (yad (zf3 l i)))) = _
 rw [(zmt _).1, CV.eta]
theorem ylz {h : Array Obj} {D : Nat -> Prop} : ∀ (x : AV) {μ : Mu} {v : Value}, okL x -> R h D μ x v -> R h D μ (.lst 4 (rdL x).length (zhk (rdL x))) v := by
 intro x μ v ho r
 induction r with
 | nils => exact .lst0 _ _ _ _ (fun _ => rfl)
 | lst0 sz get a cap hn => exact .lst0 _ _ _ _ hn
 | lst sz n get b o cap vs hD hc hv h1 hr ih =>
   obtain ⟨rfl, ho⟩ := ho
   rw [zlo]
   refine .lst _ _ _ b o cap vs hD hc hv h1 (fun i j hi hj => ?_)
   rw [zbp _ _ _ (by rw [zlo]; exact hi), zxt hi]
   obtain ⟨⟨x0, e0⟩, ⟨x1, e1⟩, ⟨x2, e2⟩, o3⟩ := ho i hi
   have hj' := hr i j hi hj
   match j, hj with
   | 0, _ => rw [zjk]; rw [e0] at hj' |-; exact hj'
   | 1, _ => rw [zjj]; rw [e1] at hj' |-; exact hj'
   | 2, _ => rw [zji]; rw [e2] at hj' |-; exact hj'
   | 3, _ => rw [zjh]; exact ih i 3 hi (by omega) o3
 | _ => exact ho.elim
theorem yn8 {h : Array Obj} {D : Nat -> Prop} {μ : Mu} {l : List CV} {v : Value} (r : R h D μ (.lst 4 l.length (zhk l)) v) : R h D μ (cvL std l) v :=
 ydj r fun i j hi hj => by
   rw [zbp _ _ _ hi]
   exact (yae _ j hj).symm
mutual
def zfo : CV -> Int
 | .mk k _ _ l => if k = 3 then zbe l + 1 else 0
def zbe : List CV -> Int
 | [] => 0
 | v :: l => max (zfo v) (zbe l)
end
theorem zmc : ∀ a b : List CV, zbe (a ++ b) = max (zbe a) (zbe b)
 | [], b => by
   rw [List.nil_append, zbe]
   have : ∀ b : List CV, 0 <= zbe b := by
     intro b
     induction b with
     | nil => rw [zbe]; omega
     | cons v l ih => rw [zbe]; omega
   have := this b
   omega
 | v :: a, b => by rw [List.cons_append, zbe, zmc a b, zbe]; omega
theorem zs3 {l : List CV} {i : Nat} (h : i < l.length) : l.take (i + 1) = l.take i ++ [zf3 l i] := by
 rw [List.take_succ_eq_append_getElem h, zf3, List.getD_eq_getElem?_getD, List.getElem?_eq_getElem h]; rfl
def zgn (l : List CV) (i : Nat) : Int := zbe (l.take i)
theorem zri {l : List CV} {i : Nat} (h : i < l.length) : zgn l (i + 1) = max (zgn l i) (zfo (zf3 l i)) := by
 unfold zgn
 rw [zs3 h, zmc, zbe, zbe]
 have : 0 <= zfo (zf3 l i) \/ True := .inr trivial
 have h0 : ∀ b : List CV, 0 <= zbe b := by
   intro b
   induction b with
   | nil => rw [zbe]; omega
   | cons v l ih => rw [zbe]; omega
 have := h0 (l.take i)
 omega
mutual
def zhq : CV -> Bool
 | .mk k n s l => if k = 1 then decide (s = []) && l.isEmpty else if k = 2 then decide (n = 0) && l.isEmpty else if k = 3 then decide (n = 0) && decide (s = []) && zf0 l else false
def zf0 : List CV -> Bool
 | [] => true
 | v :: l => zhq v && zf0 l
end
def zl4 (k : Int) : List UInt8 := [UInt8.ofNat (k % 256).toNat]
mutual
def zds : CV -> List UInt8
 | .mk k n s l => zl4 k ++ if k = 1 then zbb n else if k = 2 then zbb s.length ++ s else zbb l.length ++ zd9 l
def zd9 : List CV -> List UInt8
 | [] => []
 | v :: l => zds v ++ zd9 l
end
theorem zhx : ∀ a b : List CV, zd9 (a ++ b) = zd9 a ++ zd9 b
 | [], b => by rw [zd9]; rfl
 | v :: a, b => by rw [List.cons_append, zd9, zhx a b, zd9, List.append_assoc]
def zgl (l : List CV) (i : Nat) : List UInt8 := zd9 (l.take i)
theorem zdt {l : List CV} {i : Nat} (h : i < l.length) : zgl l (i + 1) = zgl l i ++ zds (zf3 l i) := by
 unfold zgl
 rw [zs3 h, zhx, zd9, zd9, List.append_nil]
def mkV (L : za9) (k n : Int) (s : List UInt8) (x : AV) : CV := L (L (L (L CV.mk k) n) s) (L rdL x)
def zo8 (N : Nat) (v : CV) : Prop := sizeC v <= N /\ N <= 1000000
def zqd (N : Nat) (l : List CV) : Prop := sizeCs l <= N /\ N <= 1000000
theorem zlw : ∀ l : List CV, l.length <= sizeCs l
 | [] => by simp
 | v :: l => by
   have := zlw l
   have := zen v
   rw [zbs, List.length_cons]; omega
theorem zsq {N : Nat} {l : List CV} {i : Nat} (h : zqd N l) (hi : i < l.length) : zo8 N (zf3 l i) := by
 have := zjx l i hi
 exact ⟨by have := h.1; omega, h.2⟩
theorem zch {N : Nat} {k n : Int} {s : List UInt8} {l : List CV} : zo8 (N + 1) (.mk k n s l) = (zqd N l /\ N + 1 <= 1000000) := by
 unfold zo8 zqd
 rw [ze9]
 exact propext ⟨fun h => ⟨⟨by omega, by omega⟩, by omega⟩, fun h => ⟨by have := h.1.1; omega, h.2⟩⟩
theorem zfc (v : CV) : CV.mk v.kd v.nn v.tx (rdL (.lst 4 (ybu v) (yad v))) = v := by rw [(zmt v).1]; exact CV.eta v
theorem zca (v : CV) : mkV std v.kd v.nn v.tx (.lst 4 (ybu v) (yad v)) = v := zfc v
theorem rdl (l : List CV) : rdL (.lst 4 (lenL l) fun i => cv1 std (zf3 l i)) = l := (zxu l).1
theorem okl (l : List CV) : okL (.lst 4 (lenL l) fun i => cv1 std (zf3 l i)) := (zxu l).2
theorem mkl (k n : Int) (s : List UInt8) (l : List CV) : mkV std k n s (.lst 4 (lenL l) fun i => cv1 std (zf3 l i)) = .mk k n s l := by
 show CV.mk k n s (rdL _) = _
 rw [rdl]
theorem ygt {h : Array Obj} {D : Nat -> Prop} {μ : Mu} {a b c x : AV} {v : Value} (ho : okL x) (r : R h D μ (.agg [a, b, c, x]) v) : R h D μ (.agg [a, b, c, cvL std (rdL x)]) v := by
 obtain ⟨us, rfl, o1, s1, hr⟩ := r.inv_agg
 refine .agg _ _ (by rw [<- s1]; rfl) o1 fun i y v hy hv => ?_
 match i, hy with
 | 0, hy => cases hy; exact hr 0 _ v rfl hv
 | 1, hy => cases hy; exact hr 1 _ v rfl hv
 | 2, hy => cases hy; exact hr 2 _ v rfl hv
 | 3, hy => cases hy; exact yn8 (ylz x ho (hr 3 _ v rfl hv))
 | i + 4, hy => simp at hy
theorem yoz {h : Array Obj} {D : Nat -> Prop} {μ : Mu} {x y : AV} {r : List AV} {vs : Array Value} (e : ∀ v, R h D μ x v -> R h D μ y v) (hr : RL h D μ (x :: r) vs) : RL h D μ (y :: r) vs := by
 refine ⟨by rw [<- hr.1]; rfl, fun i z v hz hv => ?_⟩
 cases i with
 | zero => cases hz; exact e v (hr.2 0 x v rfl hv)
 | succ i => exact hr.2 (i + 1) z v hz hv
theorem rl_2 {h : Array Obj} {D : Nat -> Prop} {μ : Mu} {a x y : AV} {r : List AV} {vs : Array Value} (e : ∀ v, R h D μ x v -> R h D μ y v) (hr : RL h D μ (a :: x :: r) vs) : RL h D μ (a :: y :: r) vs := by
 refine ⟨by rw [<- hr.1]; rfl, fun i z v hz hv => ?_⟩
 match i, hz with
 | 0, hz => exact hr.2 0 z v hz hv
 | 1, hz => cases hz; exact e v (hr.2 1 x v rfl hv)
 | i + 2, hz => exact hr.2 (i + 2) z v hz hv
theorem zht {P : Program} {f : FuncId} {xs ys : List AV} {r : AV} (h : ∀ h D vs, RL h D zap xs vs -> RL h D zap ys vs) (ha : zac P f ys r) : zac P f xs r := fun D w vs hD hx => ha D w vs hD (h _ _ _ hx)
theorem yoa {P : Program} {f : FuncId} {a b c x r : AV} (ho : okL x) (h : zac P f [.agg [a, b, c, cvL std (rdL x)]] r) : zac P f [.agg [a, b, c, x]] r :=
 zht (fun h D vs hr => yoz (fun v => ygt ho) hr) h
theorem ymd {h : Array Obj} {D : Nat -> Prop} {μ : Mu} {x : AV} {v : Value} (ho : okL x) (r : R h D μ x v) : R h D μ (cvL std (rdL x)) v := yn8 (ylz x ho r)
theorem yob {P : Program} {f : FuncId} {x r : AV} {q : List AV} (ho : okL x) (h : zac P f (cvL std (rdL x) :: q) r) : zac P f (x :: q) r :=
 zht (fun h D vs hr => yoz (fun v => ymd ho) hr) h
def yq4 (L : za9) (l : List CV) : Nat -> St -> Option Ann := fun id s => match id with
 | 0 => some ⟨Nat, fun i => [(12, .int .i64 (L zab i)), (3, .int .i64 (L2 L zgn l i))], fun i => [], [10, 11], [],
     fun i => L2 L (fun (l : List CV) i => i <= l.length) l i, fun i => L2 L (fun (l : List CV) (i : Nat) => l.length - i) l i⟩
 | _ => none
def zpu (N : Nat) (L : za9) : zcw := (51, fun xs => match xs with
 | [.agg [.int .i64 k, .int .u64 n, .str s, x]] => some (L okL x /\ L2 L zo8 N (mkV L k n s x), .int .i64 (L zfo (mkV L k n s x)))
 | _ => none)
theorem yjl : ∀ v, 0 <= zfo v /\ zfo v <= (sizeC v : Int) := by
 refine ygf fun k n s l ih => ?_
 have : ∀ m : List CV, (∀ v ∈ m, 0 <= zfo v /\ zfo v <= (sizeC v : Int)) -> 0 <= zbe m /\ zbe m <= (sizeCs m : Int) := by
   intro m
   induction m with
   | nil => intro _; rw [zbe, zem]; omega
   | cons v m ih =>
     intro h
     have h1 := h v (by simp)
     have h2 := ih fun w hw => h w (by simp [hw])
     rw [zbe, zbs]; omega
 have := this l ih
 rw [zfo, ze9]
 split <;> omega
theorem yac (l : List CV) (i : Nat) : 0 <= zgn l i /\ zgn l i <= (sizeCs l : Int) := by
 have h1 : ∀ m : List CV, 0 <= zbe m /\ zbe m <= (sizeCs m : Int) := by
   intro m
   induction m with
   | nil => rw [zbe, zem]; omega
   | cons v m ih => have := yjl v; rw [zbe, zbs]; omega
 have h2 := h1 (l.take i)
 have h3 : ∀ (m : List CV) (i : Nat), sizeCs (m.take i) <= sizeCs m := by
   intro m
   induction m with
   | nil => intro i; simp
   | cons v m ih =>
     intro i
     cases i with
     | zero => rw [List.take_zero, zem]; omega
     | succ i => have := ih i; rw [List.take_succ_cons, zbs, zbs]; omega
 have := h3 l i
 exact ⟨h2.1, by unfold zgn; omega⟩
theorem yab : ∀ N, zdd Tryz.prog (zpu N std) := by
 intro N
 induction N with
 | zero =>
   intro xs p r h hp
   unfold zpu at h
   simp only at h
   split at h
   · rename_i k n s x
     cases h
     have h1 : sizeC (mkV std k n s x) <= 0 := hp.2.1
     have := zen (mkV std k n s x)
     omega
   · cases h
 | succ N ih =>
   intro xs p r h hp
   unfold zpu at h
   simp only at h
   split at h
   · rename_i k n s x
     cases h
     obtain ⟨ho, hz⟩ := hp
     refine yoa ho ?_
     show zac _ _ _ (.int .i64 (zfo (.mk k n s (rdL x))))
     have hz : zo8 (N + 1) (.mk k n s (rdL x)) := hz
     generalize rdL x = l at hz |-
     refine zau (T := tt) (S := fun L => zbf [zpu N L]) (lo := fun L => yq4 L l) (lb := noA) 5 (fn := Tryz.f51) (xs := fun L => [.agg [.int .i64 k, .int .u64 n, .str s, cvL L l]]) rfl rfl (by kernel_rfl) (by kernel_rfl) rfl zae
       (za7 ⟨ih, trivial⟩) (by kernel_rfl) ?_
     intro L P' Q' hL hP hQ
     (cbv; try simp only [syT, true_and, and_true])
     refine ⟨fun h => ?_, fun h => ⟨⟨0, ?_⟩, fun i hi => ?_⟩⟩
     · (subst hL; subst hQ; simp only [L2, L3, std] at *; try simp only [syS, reduceCtorEq, Int.reduceToNat, Int.reduceAdd, Int.reduceSub] at *)
       rw [zfo, if_neg h]
     · (cbv; try simp only [syT, true_and, and_true])
       (subst hL; subst hQ; simp only [L2, L3, std] at *; try simp only [syS, reduceCtorEq, Int.reduceToNat, Int.reduceAdd, Int.reduceSub] at *)
       exact ⟨by rw [zgn, List.take_zero, zbe], Nat.zero_le _⟩
     · cbv at hi
       (cbv; try simp only [syT, true_and, and_true])
       refine ⟨fun hlt => ⟨?_, ⟨?_, ?_⟩, ⟨i + 1, ?_⟩⟩, fun hge => ?_⟩
       · (subst hL; subst hQ; simp only [L2, L3, std] at *; try simp only [syS, reduceCtorEq, Int.reduceToNat, Int.reduceAdd, Int.reduceSub] at *)
         omega
       · (subst hL; subst hQ; simp only [L2, L3, std] at *; try simp only [syS, reduceCtorEq, Int.reduceToNat, Int.reduceAdd, Int.reduceSub] at *)
         exact (zmt _).2
       · (subst hL; subst hQ; simp only [L2, L3, std] at *; try simp only [syS, reduceCtorEq, Int.reduceToNat, Int.reduceAdd, Int.reduceSub] at *)
         rw [zfc]
         rw [zch] at hz
         exact zsq hz.1 (by have : lenL l = l.length := rfl; omega)
       · (cbv; try simp only [syT, true_and, and_true])
         (subst hL; subst hQ; simp only [L2, L3, std] at *; try simp only [syS, reduceCtorEq, Int.reduceToNat, Int.reduceAdd, Int.reduceSub] at *)
         have : lenL l = l.length := rfl
         have := zlw l
         have h1 := hz.1
         have h2 := hz.2
         rw [ze9] at h1
         rw [zca]
         exact ⟨by rw [zri (by omega)], by omega, by omega, by omega⟩
       · (subst hL; subst hQ; simp only [L2, L3, std] at *; try simp only [syS, reduceCtorEq, Int.reduceToNat, Int.reduceAdd, Int.reduceSub] at *)
         have : lenL l = l.length := rfl
         have hil : i = l.length := by omega
         have h3 := yac l i
         have h1 := hz.1
         have h2 := hz.2
         rw [ze9] at h1
         rw [zfo, if_pos h, hil, zgn, List.take_length]
         rw [hil, zgn, List.take_length] at h3
         omega
   · cases h
def okG {α : Type} (V : Vw α) : AV -> Prop
 | .agg cs => cs.length = V.sz /\ V.ok (fun j => zc0 .dead cs j)
 | _ => False
def rdG {α : Type} (V : Vw α) : AV -> α
 | .agg cs => V.rd (fun j => zc0 .dead cs j)
 | _ => V.d
theorem zz3 (cs : List AV) (j : Nat) : zc0 .dead cs j = (cs[j]?).getD .dead := by
 induction cs generalizing j with
 | nil => cases j <;> rfl
 | cons x l ih => cases j with
   | zero => rfl
   | succ j => exact ih j
theorem gK {α : Type} {V : Vw α} (K : ybh V) (x : α) (cs : List AV) (h : cs = (List.range V.sz).map (V.cell std x)) : okG V (.agg cs) /\ rdG V (.agg cs) = x := by
 have h1 : ∀ j, j < V.sz -> zc0 .dead cs j = V.cell std x j := fun j hj => by rw [zz3, h]; simp [hj]
 have h2 := K.back _ x h1
 exact ⟨⟨by simp [h], h2.1⟩, h2.2⟩
theorem G_R {α : Type} {V : Vw α} (K : ybh V) {x : AV} (ho : okG V x) {h : Array Obj} {D : Nat -> Prop} {μ : Mu} {v : Value} (r : R h D μ x v) : R h D μ (.agg ((List.range V.sz).map (V.cell std (rdG V x)))) v := by
 match x, ho with
 | .agg cs, ho =>
   obtain ⟨us, rfl, o1, s1, hr⟩ := r.inv_agg
   refine .agg _ _ (by rw [<- s1]; simp [ho.1]) o1 fun i y w hy hw => ?_
   have hi : i < V.sz := by
     have := (List.getElem?_eq_some_iff.1 hy).1
     simpa using this
   simp [hi] at hy
   subst hy
   have hc : cs[i]? = some (zc0 .dead cs i) := by
     rw [zz3, List.getElem?_eq_getElem (by rw [ho.1]; exact hi)]; rfl
   exact K.turn _ ho.2 i hi _ _ _ _ (hr i _ w hc hw)
theorem ac_g {α : Type} {V : Vw α} (K : ybh V) {P : Program} {f : FuncId} {x r : AV} {q : List AV} (ho : okG V x) (h : zac P f (.agg ((List.range V.sz).map (V.cell std (rdG V x))) :: q) r) : zac P f (x :: q) r :=
 zht (fun h D vs hr => yoz (fun v => G_R K ho) hr) h
def zfb (n : Nat) (g : Nat -> Nat -> AV) : List Int := (List.range n).map fun i => (g i 0).toI
def byG (n : Nat) (g : Nat -> Nat -> AV) : Prop := ∀ i, i < n -> ∃ x, g i 0 = .int .u8 x
def bcI (l m : List Int) : Int := Lib.compareBytes (prB l) (prB m)
theorem yb5 {P : Program} {w : World} {D : Nat -> Prop} {μ : Mu} {n : Nat} {g : Nat -> Nat -> AV} {v : Value} (hg : byG n g) (r : R w.heap D μ (.lst 1 n g) v) : (Extern.Bytes.bytesOf v).run P w = .ok ⟨(prB (zfb n g)).toArray⟩ w := by
 cases r with
 | lst0 _ _ a cap hn =>
   cases a with
   | none => simp [Extern.Bytes.bytesOf, zfb, prB]; rfl
   | some a => simp [Extern.Bytes.bytesOf, Extern.Bytes.loadBytes, zfb, prB]; rfl
 | lst _ _ _ b o cap vs hD hc hv h1 hr =>
   have hl := Lib.run_loadBytesX (P := P) w (zfb n g) ⟨b, o, none⟩ .empty (fun j x hj => by
     have hjl : j < n := by
       have := (List.getElem?_eq_some_iff.1 hj).1
       simpa [zfb] using this
     have e : (⟨b, o, none⟩ : Addr).add j = ⟨b, o + j, none⟩ := by unfold Addr.add; split <;> simp_all
     have h2 := hv j 0 hjl (by omega)
     have h3 := hr j 0 hjl (by omega)
     obtain ⟨y, hy⟩ := hg j hjl
     rw [hy] at h3
     generalize vs j 0 = z at h2 h3
     have hx : x = y := by
       have : (zfb n g)[j]? = some y := by simp [zfb, hjl, hy, AV.toI]
       rw [this] at hj
       cases hj; rfl
     rw [e, zg4]
     show hcell w.heap b (o + j) = _
     rw [show o + j = o + j * 1 + 0 by omega, h2]
     cases h3
     rw [hx])
   rw [show (zfb n g).length = n by simp [zfb]] at hl
   show (Extern.Bytes.loadBytes ⟨b, o, none⟩ n .empty).run P w = _
   rw [hl]
   congr 1
   apply ByteArray.ext
   show (#[] : Array UInt8) ++ (Lib.bytesOf (zfb n g)).toArray = (prB (zfb n g)).toArray
   simp [Lib.bytesOf, prB]
def yex (L : za9) : zcw := (62, fun xs => match xs with
 | [.lst 1 n g, .lst 1 m k] => some (L2 L byG n g /\ L2 L byG m k, .int .i64 (L2 L bcI (L2 L zfb n g) (L2 L zfb m k)))
 | _ => none)
theorem yey : zdd Tryz.prog (yex std) := by
 intro xs p r h hp
 dsimp only [yex] at h
 split at h
 rotate_left
 · cases h
 rename_i n g m k
 cases h
 obtain ⟨hg, hk⟩ := hp
 have h1 : Tryz.prog.funcs[62]? = some Tryz.f62 := rfl
 have h2 : (Tryz.f62.name == "runtime.NumGoroutine") = false := by kernel_rfl
 have h3 : Tryz.f62.body.isNone = true := by kernel_rfl
 have h4 : Extern.findNext Tryz.f62 = none := by kernel_rfl
 have h5 : Extern.find Tryz.f62 = some Extern.BytealgCompare.compare := by kernel_rfl
 intro D w vs hD hxs hgo
 obtain ⟨v, u, hv⟩ : ∃ v u, vs.toList = [v, u] := by
   have hl : vs.toList.length = 2 := by simpa using hxs.1.symm
   match vs.toList, hl with
   | [a, b], _ => exact ⟨a, b, rfl⟩
 have : vs = #[v, u] := by rw [<- Array.toArray_toList (xs := vs), hv]
 subst this
 have r1 : R w.heap D zap (.lst 1 n g) v := hxs.2 0 _ v rfl rfl
 have r2 : R w.heap D zap (.lst 1 m k) u := hxs.2 1 _ u rfl rfl
 have key : (Extern.BytealgCompare.compare #[v, u]).run Tryz.prog w = .ok (.int .i64 (bcI (zfb n g) (zfb m k))) w := by
   change Sem.run Tryz.prog (do pure (goInt (Extern.BytealgCompare.cmp (<- Extern.Bytes.bytesOf v) (<- Extern.Bytes.bytesOf u)))) w = _
   simp only [Sem.run_bind, yb5 hg r1, yb5 hk r2, Sem.run_pure, Result.andThen]
   rw [Lib.cmp_eq]; rfl
 unfold ze5
 rw [show (yex std).fst = 62 from rfl, run_callFunc_extern h1 h2 h3 h4 h5, key]
 exact ⟨_, D, rfl, Below.refl _ _, fun _ h => h, fun b hb => .inl hb, .int _ _⟩
def yqk (L : za9) : zcw := (45, fun xs => match xs with
 | [.lst 1 n g, .lst 1 m k] => some (L2 L byG n g /\ L2 L byG m k, .int .i64 (L2 L bcI (L2 L zfb n g) (L2 L zfb m k)))
 | _ => none)
theorem yk9 : zdd Tryz.prog (yqk std) := by
 intro xs p r h hp
 dsimp only [yqk] at h
 split at h
 rotate_left
 · cases h
 rename_i n g m k
 cases h
 refine zaa (T := tt) (S := fun L => zbf [yex L]) (lo := noA) (lb := noA) 5 (fn := Tryz.f45) rfl rfl (by kernel_rfl) (by kernel_rfl) rfl zae (za7 ⟨yey, trivial⟩) (by kernel_rfl) ?_
 (intro L P1 Q1 hL hP hQ; cbv; subst hL; simp only [L2, L3, std, syT]; subst hQ)
 (simp only [syS, reduceCtorEq, Int.reduceToNat, Int.reduceAdd, Int.reduceSub])
 exact ⟨hp, rfl⟩
def za0 (p : Pr) (j : Nat) : Int := za1 p.1 j
def prZ : Pr := ⟨[0, 0, 0, 0, 0, 0, 0, 0, 0, 0, 0, 0, 0, 0, 0, 0], rfl⟩
def prC (L : za9) (p : Pr) (j : Nat) : AV := .int .u8 (L2 L za0 p j)
def ycr (c : Nat -> AV) : Pr := ⟨(List.range 16).map fun j => (c j).toI, by simp⟩
def prV : Vw Pr := ⟨16, prC, ycr, fun c => ∀ j, j < 16 -> isI .u8 (c j), prZ⟩
def leC (L : za9) (x : Le) (j : Nat) : AV := match zbc j 16 with
 | true => .int .u8 (L2 L za0 (L Le.p x) j)
 | false => match zal j 16 with
   | true => .int .i64 (L Le.d x)
   | false => .bool (L Le.h x)
def toB (x : AV) : Bool := match x with | .bool b => b | _ => false
def isB (x : AV) : Prop := ∃ b, x = .bool b
def leV : Vw Le := ⟨18, leC, fun c => ⟨ycr c, (c 16).toI, toB (c 17)⟩, fun c => (∀ j, j < 16 -> isI .u8 (c j)) /\ isI .i64 (c 16) /\ isB (c 17), ⟨prZ, 0, false⟩⟩
theorem zqk {c : Nat -> AV} {j : Nat} (hj : j < 16) : za0 (ycr c) j = (c j).toI := by
 unfold za0 ycr za1
 simp [List.getD_eq_getElem?_getD, hj]
theorem zoi {c : Nat -> AV} {x : Pr} (h : ∀ j, j < 16 -> c j = .int .u8 (za0 x j)) : ycr c = x := by
 apply Subtype.ext
 apply List.ext_getElem
 · rw [(ycr c).2, x.2]
 · intro i h1 h2
   have hi : i < 16 := by rw [x.2] at h2; exact h2
   have e := zqk (c := c) hi
   rw [h i hi] at e
   unfold za0 za1 at e
   simp only [List.getD_eq_getElem?_getD, List.getElem?_eq_getElem h1, List.getElem?_eq_getElem h2, Option.getD_some, AV.toI] at e
   exact e
theorem zlp : ybh prV := by
 refine ⟨fun c hc j hj h D μ v r => ?_, fun c x hx => ⟨fun j hj => ⟨_, hx j hj⟩, zoi hx⟩⟩
 show R h D μ (.int .u8 (za0 (ycr c) j)) v
 rw [zqk hj]
 exact yir (hc j hj) r
theorem yme (x : Le) {j : Nat} (h : j < 16) : leC std x j = .int .u8 (za0 x.p j) := by
 unfold leC
 rw [zvk h]; rfl
theorem zed : ybh leV := by
 refine ⟨fun c hc j hj h D μ v r => ?_, fun c x hx => ?_⟩
 · obtain ⟨h0, h1, h2⟩ := hc
   by_cases hlt : j < 16
   · show R h D μ (leC std _ j) v
     rw [yme _ hlt]
     show R h D μ (.int .u8 (za0 (ycr c) j)) v
     rw [zqk hlt]
     exact yir (h0 j hlt) r
   · have hj : j < 18 := hj
     have : j = 16 \/ j = 17 := by omega
     rcases this with rfl | rfl
     · exact yir h1 r
     · obtain ⟨b, hb⟩ := h2
       rw [hb] at r
       show R h D μ (.bool (toB (c 17))) v
       rw [hb]; exact r
 · have hp : ∀ j, j < 16 -> c j = .int .u8 (za0 x.p j) := fun j hj => by rw [hx j (by show j < 18; omega)]; exact yme x hj
   have e16 := hx 16 (by decide)
   have e17 := hx 17 (by decide)
   refine ⟨⟨fun j hj => ⟨_, hp j hj⟩, ⟨_, e16⟩, ⟨_, e17⟩⟩, ?_⟩
   show Le.mk (ycr c) (c 16).toI (toB (c 17)) = x
   rw [zoi hp, e16, e17]; rfl
def zao (l : List Le) (i : Nat) : Le := zyg leV l i
def zdb (L : za9) (l : List Le) : AV := .lst 18 (L zfl l) (fun i => leC L (L (L zao l) i))
def zfa (x : AV) : Prop := okW leV x
def zak (x : AV) : List Le := rdW leV x
def zei (x : AV) : Prop := okG leV x
def zc4 (x : AV) : Le := rdG leV x
def zd2 (x : AV) : Prop := okG prV x
def zar (x : AV) : Pr := rdG prV x
theorem zoh (l : List Le) : zak (.lst 18 (zfl l) fun i => leC std (zao l i)) = l := (zxv zed l).2
theorem zos (l : List Le) : zfa (.lst 18 (zfl l) fun i => leC std (zao l i)) := (zxv zed l).1
theorem zga {l : List Le} {i : Nat} (h : i < l.length) : zao l i = l[i] := zi4 (V := leV) h
def zux (L : za9) (p : Pr) : AV := .agg [.int .u8 (L2 L za0 p 0), .int .u8 (L2 L za0 p 1), .int .u8 (L2 L za0 p 2), .int .u8 (L2 L za0 p 3), .int .u8 (L2 L za0 p 4), .int .u8 (L2 L za0 p 5), .int .u8 (L2 L za0 p 6), .int .u8 (L2 L za0 p 7), .int .u8 (L2 L za0 p 8), .int .u8 (L2 L za0 p 9), .int .u8 (L2 L za0 p 10), .int .u8 (L2 L za0 p 11), .int .u8 (L2 L za0 p 12), .int .u8 (L2 L za0 p 13), .int .u8 (L2 L za0 p 14), .int .u8 (L2 L za0 p 15)]
def leA (L : za9) (x : Le) : AV := .agg [.int .u8 (L2 L za0 (L Le.p x) 0), .int .u8 (L2 L za0 (L Le.p x) 1), .int .u8 (L2 L za0 (L Le.p x) 2), .int .u8 (L2 L za0 (L Le.p x) 3), .int .u8 (L2 L za0 (L Le.p x) 4), .int .u8 (L2 L za0 (L Le.p x) 5), .int .u8 (L2 L za0 (L Le.p x) 6), .int .u8 (L2 L za0 (L Le.p x) 7), .int .u8 (L2 L za0 (L Le.p x) 8), .int .u8 (L2 L za0 (L Le.p x) 9), .int .u8 (L2 L za0 (L Le.p x) 10), .int .u8 (L2 L za0 (L Le.p x) 11), .int .u8 (L2 L za0 (L Le.p x) 12), .int .u8 (L2 L za0 (L Le.p x) 13), .int .u8 (L2 L za0 (L Le.p x) 14), .int .u8 (L2 L za0 (L Le.p x) 15), .int .i64 (L Le.d x), .bool (L Le.h x)]
theorem zy2 (p : Pr) : [za0 p 0, za0 p 1, za0 p 2, za0 p 3, za0 p 4, za0 p 5, za0 p 6, za0 p 7, za0 p 8, za0 p 9, za0 p 10, za0 p 11, za0 p 12, za0 p 13, za0 p 14, za0 p 15] = p.1 := by
 obtain ⟨l, hl⟩ := p
 match l, hl with
 | [a0, a1, a2, a3, a4, a5, a6, a7, a8, a9, a10, a11, a12, a13, a14, a15], _ => rfl
theorem zk3 (p : Pr) : AV.agg ((List.range prV.sz).map (prV.cell std p)) = zux std p := rfl
theorem zz4 (x : Le) : AV.agg ((List.range leV.sz).map (leV.cell std x)) = leA std x := rfl
theorem zc3 (p : Pr) : zd2 (zux std p) /\ zar (zux std p) = p := gK zlp p _ rfl
theorem zc9 (x : Le) : zei (leA std x) /\ zc4 (leA std x) = x := gK zed x _ rfl
theorem yox {h : Array Obj} {D : Nat -> Prop} {x y y' : AV} {xs : List AV} {vs : Array Value} (k : ∀ v, R h D zap y v -> R h D zap y' v) (hr : RL h D zap (x :: y :: xs) vs) : RL h D zap (x :: y' :: xs) vs := by
 refine ⟨hr.1, fun i z v hz hv => ?_⟩
 match i, hz with
 | 0, hz => exact hr.2 0 z v hz hv
 | 1, hz => cases hz; exact k v (hr.2 1 y v rfl hv)
 | i + 2, hz => exact hr.2 (i + 2) z v hz hv
theorem zvt {α : Type} {V : Vw α} (K : ybh V) {P : Program} {f : FuncId} {y x r : AV} {q : List AV} (ho : okG V x) (h : zac P f (y :: .agg ((List.range V.sz).map (V.cell std (rdG V x))) :: q) r) : zac P f (y :: x :: q) r :=
 zht (fun h D vs hr => yox (fun v => G_R K ho) hr) h
def zol (p q : Pr) : Int := if prN p < prN q then -1 else if prN q < prN p then 1 else 0
def ynb (p q : Pr) : Prop := zgx p /\ zgx q
def yie (L : za9) : zcw := (44, fun xs => match xs with
 | [x, q] => some (L zei x /\ L zd2 q /\ L2 L ynb (L Le.p (L zc4 x)) (L zar q), .int .i64 (L2 L zol (L Le.p (L zc4 x)) (L zar q)))
 | _ => none)
theorem ydu : zdd Tryz.prog (yie std) := by
 intro xs p r h hp
 dsimp only [yie] at h |-
 split at h <;> cases h
 try simp only [L2, L3, std] at hp |-
 rename_i x q
 obtain ⟨o1, o2, o3⟩ := hp
 refine ac_g zed o1 (zvt zlp o2 ?_)
 rw [zk3, zz4]
 have o3 : ynb (zc4 x).p (zar q) := o3
 show zac _ _ [leA std (zc4 x), zux std (zar q)] (.int .i64 (zol (zc4 x).p (zar q)))
 generalize zc4 x = e at o3 |-
 generalize zar q = p at o3 |-
 refine zau (T := tt) (S := fun L => zbf [yqk L]) (lo := noA) (lb := noA) 5 (fn := Tryz.f44) (xs := fun L => [leA L e, zux L p]) rfl rfl (by kernel_rfl) (by kernel_rfl) rfl zae (za7 ⟨yk9, trivial⟩) (by kernel_rfl) ?_
 intro L P' Q' hL hP hQ
 have hc := yah (p := e.p.1) (q := p.1) (by rw [e.p.2, p.2]) o3.1 o3.2
 (cbv; try simp only [syT, true_and, and_true])
 (subst hL; subst hQ; simp only [L2, L3, std] at *; try simp only [syS, reduceCtorEq, Int.reduceToNat, Int.reduceAdd, Int.reduceSub] at *)
 refine ⟨⟨fun i _ => ⟨_, rfl⟩, fun i _ => ⟨_, rfl⟩⟩, ?_⟩
 rw [show (zfb 16 fun i x => AV.int IntKind.u8 (za1 [za0 e.p 0, za0 e.p 1, za0 e.p 2, za0 e.p 3, za0 e.p 4, za0 e.p 5, za0 e.p 6, za0 e.p 7, za0 e.p 8, za0 e.p 9, za0 e.p 10, za0 e.p 11, za0 e.p 12, za0 e.p 13, za0 e.p 14, za0 e.p 15] i)) = e.p.1 from zy2 e.p,
   show (zfb 16 fun i x => AV.int IntKind.u8 (za1 [za0 p 0, za0 p 1, za0 p 2, za0 p 3, za0 p 4, za0 p 5, za0 p 6, za0 p 7, za0 p 8, za0 p 9, za0 p 10, za0 p 11, za0 p 12, za0 p 13, za0 p 14, za0 p 15] i)) = p.1 from zy2 p]
 exact hc
def zdz (l : List Le) : Prop := l.length <= 1000000
def ze0 (l : List Le) (p : Pr) : Int := zc6 (prN p) l
def ztb (l : List Le) (p : Pr) : Bool := zb6 p l
def lbIn (l : List Le) (p : Pr) (x : Nat × Nat) : Prop := x.1 <= zc6 (prN p) l /\ zc6 (prN p) l <= x.2 /\ x.2 <= l.length
def lbGo (x : Nat × Nat) : Nat := x.2 - x.1
def lbsA (L : za9) (l : List Le) (p : Pr) : Nat -> St -> Option Ann := fun id st => match id with
 | 0 => some ⟨Nat × Nat, fun x => [(9, .int .i64 (L zab (L Prod.fst x))), (10, .int .i64 (L zab (L Prod.snd x)))], fun x => [], [0, 2, 4, 8], [4], fun x => L3 L lbIn l p x, fun x => L lbGo x⟩
 | _ => none
def yif (L : za9) : zcw := (43, fun xs => match xs with
 | [x, q, .fn k [] []] => match zal k 44 with
   | true => some (L zfa x /\ L zd2 q /\ L zdz (L zak x) /\ L zde (L zak x) /\ L zgx (L zar q), .tup [.int .i64 (L2 L ze0 (L zak x) (L zar q)), .bool (L2 L ztb (L zak x) (L zar q))])
   | false => none
 | _ => none)
theorem znz {i j : Nat} {m : Int} (h : j <= 1000000) (hi : (i : Int) < (j : Int)) (hm : (zmh .u64 ((((i : Int) + (j : Int) + 9223372036854775808) % 18446744073709551616 - 9223372036854775808) % 18446744073709551616) 1 + 9223372036854775808) % 18446744073709551616 - 9223372036854775808 = m) :
   m = (((i + j) / 2 : Nat) : Int) := by
 have e : zmh .u64 ((((i : Int) + (j : Int) + 9223372036854775808) % 18446744073709551616 - 9223372036854775808) % 18446744073709551616) 1 = ((i : Int) + j) / 2 := by
   rw [show (((i : Int) + (j : Int) + 9223372036854775808) % 18446744073709551616 - 9223372036854775808) % 18446744073709551616 = (i : Int) + j by omega]
   unfold zmh
   show Int.fdiv _ (2 ^ 1) = _
   rw [Int.fdiv_eq_ediv_of_nonneg _ (by decide)]
   rfl
 rw [e] at hm
 omega
theorem ygg {p q : Pr} : (zol p q < 0) = (prN p < prN q) := by
 unfold zol
 split
 · rename_i h; exact propext ⟨fun _ => h, fun _ => by decide⟩
 · rename_i h
   split
   · exact propext ⟨fun h2 => by omega, fun h2 => absurd h2 h⟩
   · exact propext ⟨fun h2 => by omega, fun h2 => absurd h2 h⟩
theorem yai {p q : Pr} : (zol p q = 0) = (prN p = prN q) := by
 unfold zol
 split
 · rename_i h; exact propext ⟨fun h2 => by omega, fun h2 => by omega⟩
 · rename_i h
   split
   · exact propext ⟨fun h2 => by omega, fun h2 => by omega⟩
   · exact propext ⟨fun h2 => by omega, fun _ => rfl⟩
theorem yig {l : List Le} {p : Pr} (hok : zde l) (hpo : zgx p) {i : Nat} (e : i = zc6 (prN p) l) : ((i : Int) < (l.length : Int) -> ieq (zol (zao l i).p p) 0 = zb6 p l) /\ ((l.length : Int) <= (i : Int) -> false = zb6 p l) := by
 subst e
 constructor
 · intro h
   have h : zc6 (prN p) l < l.length := by omega
   rw [zga h]
   have hh := ypm hok hpo h
   cases hb : zb6 p l with
   | true =>
     have := hh.2 hb
     simp only [ieq, beq_iff_eq, yai]; exact this
   | false =>
     simp only [ieq, beq_eq_false_iff_ne, ne_eq, yai]
     intro h2
     rw [hh.1 h2] at hb; cases hb
 · intro h
   cases hb : zb6 p l with
   | true =>
     obtain ⟨h2, _⟩ := (zgm hok hpo).1 hb
     omega
   | false => rfl
theorem ydv : zdd Tryz.prog (yif std) := by
 intro xs p r h hp
 unfold yif at h
 simp only at h
 split at h
 rotate_left
 · cases h
 rename_i x q k
 cases hk : zal k 44 with
 | false => rw [hk] at h; cases h
 | true =>
 rw [hk] at h
 obtain rfl : k = 44 := of_decide_eq_true hk
 cases h
 obtain ⟨ho, ho2, hz, hok, hpo⟩ := hp
 refine ynt zed ho (zvt zlp ho2 ?_)
 rw [zk3]
 have hz : zdz (zak x) := hz
 have hok : zde (zak x) := hok
 have hpo : zgx (zar q) := hpo
 show zac _ _ (zv6 std leV (zak x) :: zux std (zar q) :: _) (.tup [.int .i64 (ze0 (zak x) (zar q)), .bool (ztb (zak x) (zar q))])
 generalize zak x = l at hz hok |-
 generalize zar q = p at hpo |-
 refine zau (T := tt) (S := fun L => zbf [yie L]) (lo := fun L => lbsA L l p) (lb := noA) 5 (fn := Tryz.f43) (xs := fun L => [zdb L l, zux L p, .fn 44 [] []]) rfl rfl (by kernel_rfl) (by kernel_rfl) rfl zae (za7 ⟨ydu, trivial⟩) (by kernel_rfl) ?_
 intro L P' Q' hL hP hQ
 have hw : zfl l = l.length := rfl
 have hz : l.length <= 1000000 := hz
 have hlb := zi8 (prN p) l
 have hE : ∀ (y : Pr) (d : Int) (h : Bool), L zc4 (.agg [.int .u8 (L (L za0 y) 0), .int .u8 (L (L za0 y) 1), .int .u8 (L (L za0 y) 2), .int .u8 (L (L za0 y) 3), .int .u8 (L (L za0 y) 4), .int .u8 (L (L za0 y) 5), .int .u8 (L (L za0 y) 6), .int .u8 (L (L za0 y) 7), .int .u8 (L (L za0 y) 8), .int .u8 (L (L za0 y) 9), .int .u8 (L (L za0 y) 10), .int .u8 (L (L za0 y) 11), .int .u8 (L (L za0 y) 12), .int .u8 (L (L za0 y) 13), .int .u8 (L (L za0 y) 14), .int .u8 (L (L za0 y) 15), .int .i64 d, .bool h]) = L (L (L Le.mk y) d) h := by subst hL; exact fun y d h => (zc9 ⟨y, d, h⟩).2
 have hEo : ∀ (y : Pr) (d : Int) (h : Bool), (L zei (.agg [.int .u8 (L (L za0 y) 0), .int .u8 (L (L za0 y) 1), .int .u8 (L (L za0 y) 2), .int .u8 (L (L za0 y) 3), .int .u8 (L (L za0 y) 4), .int .u8 (L (L za0 y) 5), .int .u8 (L (L za0 y) 6), .int .u8 (L (L za0 y) 7), .int .u8 (L (L za0 y) 8), .int .u8 (L (L za0 y) 9), .int .u8 (L (L za0 y) 10), .int .u8 (L (L za0 y) 11), .int .u8 (L (L za0 y) 12), .int .u8 (L (L za0 y) 13), .int .u8 (L (L za0 y) 14), .int .u8 (L (L za0 y) 15), .int .i64 d, .bool h])) = True := by subst hL; exact fun y d h => eq_true (zc9 ⟨y, d, h⟩).1
 have hF : ∀ (y : Pr) (d : Int) (h : Bool), L zc4 (.agg [.int .u8 (L (L za1 [L (L za0 y) 0, L (L za0 y) 1, L (L za0 y) 2, L (L za0 y) 3, L (L za0 y) 4, L (L za0 y) 5, L (L za0 y) 6, L (L za0 y) 7, L (L za0 y) 8, L (L za0 y) 9, L (L za0 y) 10, L (L za0 y) 11, L (L za0 y) 12, L (L za0 y) 13, L (L za0 y) 14, L (L za0 y) 15]) 0), .int .u8 (L (L za1 [L (L za0 y) 0, L (L za0 y) 1, L (L za0 y) 2, L (L za0 y) 3, L (L za0 y) 4, L (L za0 y) 5, L (L za0 y) 6, L (L za0 y) 7, L (L za0 y) 8, L (L za0 y) 9, L (L za0 y) 10, L (L za0 y) 11, L (L za0 y) 12, L (L za0 y) 13, L (L za0 y) 14, L (L za0 y) 15]) 1), .int .u8 (L (L za1 [L (L za0 y) 0, L (L za0 y) 1, L (L za0 y) 2, L (L za0 y) 3, L (L za0 y) 4, L (L za0 y) 5, L (L za0 y) 6, L (L za0 y) 7, L (L za0 y) 8, L (L za0 y) 9, L (L za0 y) 10, L (L za0 y) 11, L (L za0 y) 12, L (L za0 y) 13, L (L za0 y) 14, L (L za0 y) 15]) 2), .int .u8 (L (L za1 [L (L za0 y) 0, L (L za0 y) 1, L (L za0 y) 2, L (L za0 y) 3, L (L za0 y) 4, L (L za0 y) 5, L (L za0 y) 6, L (L za0 y) 7, L (L za0 y) 8, L (L za0 y) 9, L (L za0 y) 10, L (L za0 y) 11, L (L za0 y) 12, L (L za0 y) 13, L (L za0 y) 14, L (L za0 y) 15]) 3), .int .u8 (L (L za1 [L (L za0 y) 0, L (L za0 y) 1, L (L za0 y) 2, L (L za0 y) 3, L (L za0 y) 4, L (L za0 y) 5, L (L za0 y) 6, L (L za0 y) 7, L (L za0 y) 8, L (L za0 y) 9, L (L za0 y) 10, L (L za0 y) 11, L (L za0 y) 12, L (L za0 y) 13, L (L za0 y) 14, L (L za0 y) 15]) 4), .int .u8 (L (L za1 [L (L za0 y) 0, L (L za0 y) 1, L (L za0 y) 2, L (L za0 y) 3, L (L za0 y) 4, L (L za0 y) 5, L (L za0 y) 6, L (L za0 y) 7, L (L za0 y) 8, L (L za0 y) 9, L (L za0 y) 10, L (L za0 y) 11, L (L za0 y) 12, L (L za0 y) 13, L (L za0 y) 14, L (L za0 y) 15]) 5), .int .u8 (L (L za1 [L (L za0 y) 0, L (L za0 y) 1, L (L za0 y) 2, L (L za0 y) 3, L (L za0 y) 4, L (L za0 y) 5, L (L za0 y) 6, L (L za0 y) 7, L (L za0 y) 8, L (L za0 y) 9, L (L za0 y) 10, L (L za0 y) 11, L (L za0 y) 12, L (L za0 y) 13, L (L za0 y) 14, L (L za0 y) 15]) 6), .int .u8 (L (L za1 [L (L za0 y) 0, L (L za0 y) 1, L (L za0 y) 2, L (L za0 y) 3, L (L za0 y) 4, L (L za0 y) 5, L (L za0 y) 6, L (L za0 y) 7, L (L za0 y) 8, L (L za0 y) 9, L (L za0 y) 10, L (L za0 y) 11, L (L za0 y) 12, L (L za0 y) 13, L (L za0 y) 14, L (L za0 y) 15]) 7), .int .u8 (L (L za1 [L (L za0 y) 0, L (L za0 y) 1, L (L za0 y) 2, L (L za0 y) 3, L (L za0 y) 4, L (L za0 y) 5, L (L za0 y) 6, L (L za0 y) 7, L (L za0 y) 8, L (L za0 y) 9, L (L za0 y) 10, L (L za0 y) 11, L (L za0 y) 12, L (L za0 y) 13, L (L za0 y) 14, L (L za0 y) 15]) 8), .int .u8 (L (L za1 [L (L za0 y) 0, L (L za0 y) 1, L (L za0 y) 2, L (L za0 y) 3, L (L za0 y) 4, L (L za0 y) 5, L (L za0 y) 6, L (L za0 y) 7, L (L za0 y) 8, L (L za0 y) 9, L (L za0 y) 10, L (L za0 y) 11, L (L za0 y) 12, L (L za0 y) 13, L (L za0 y) 14, L (L za0 y) 15]) 9), .int .u8 (L (L za1 [L (L za0 y) 0, L (L za0 y) 1, L (L za0 y) 2, L (L za0 y) 3, L (L za0 y) 4, L (L za0 y) 5, L (L za0 y) 6, L (L za0 y) 7, L (L za0 y) 8, L (L za0 y) 9, L (L za0 y) 10, L (L za0 y) 11, L (L za0 y) 12, L (L za0 y) 13, L (L za0 y) 14, L (L za0 y) 15]) 10), .int .u8 (L (L za1 [L (L za0 y) 0, L (L za0 y) 1, L (L za0 y) 2, L (L za0 y) 3, L (L za0 y) 4, L (L za0 y) 5, L (L za0 y) 6, L (L za0 y) 7, L (L za0 y) 8, L (L za0 y) 9, L (L za0 y) 10, L (L za0 y) 11, L (L za0 y) 12, L (L za0 y) 13, L (L za0 y) 14, L (L za0 y) 15]) 11), .int .u8 (L (L za1 [L (L za0 y) 0, L (L za0 y) 1, L (L za0 y) 2, L (L za0 y) 3, L (L za0 y) 4, L (L za0 y) 5, L (L za0 y) 6, L (L za0 y) 7, L (L za0 y) 8, L (L za0 y) 9, L (L za0 y) 10, L (L za0 y) 11, L (L za0 y) 12, L (L za0 y) 13, L (L za0 y) 14, L (L za0 y) 15]) 12), .int .u8 (L (L za1 [L (L za0 y) 0, L (L za0 y) 1, L (L za0 y) 2, L (L za0 y) 3, L (L za0 y) 4, L (L za0 y) 5, L (L za0 y) 6, L (L za0 y) 7, L (L za0 y) 8, L (L za0 y) 9, L (L za0 y) 10, L (L za0 y) 11, L (L za0 y) 12, L (L za0 y) 13, L (L za0 y) 14, L (L za0 y) 15]) 13), .int .u8 (L (L za1 [L (L za0 y) 0, L (L za0 y) 1, L (L za0 y) 2, L (L za0 y) 3, L (L za0 y) 4, L (L za0 y) 5, L (L za0 y) 6, L (L za0 y) 7, L (L za0 y) 8, L (L za0 y) 9, L (L za0 y) 10, L (L za0 y) 11, L (L za0 y) 12, L (L za0 y) 13, L (L za0 y) 14, L (L za0 y) 15]) 14), .int .u8 (L (L za1 [L (L za0 y) 0, L (L za0 y) 1, L (L za0 y) 2, L (L za0 y) 3, L (L za0 y) 4, L (L za0 y) 5, L (L za0 y) 6, L (L za0 y) 7, L (L za0 y) 8, L (L za0 y) 9, L (L za0 y) 10, L (L za0 y) 11, L (L za0 y) 12, L (L za0 y) 13, L (L za0 y) 14, L (L za0 y) 15]) 15), .int .i64 d, .bool h]) = L (L (L Le.mk y) d) h := by subst hL; exact fun y d h => (zc9 ⟨y, d, h⟩).2
 have hFo : ∀ (y : Pr) (d : Int) (h : Bool), (L zei (.agg [.int .u8 (L (L za1 [L (L za0 y) 0, L (L za0 y) 1, L (L za0 y) 2, L (L za0 y) 3, L (L za0 y) 4, L (L za0 y) 5, L (L za0 y) 6, L (L za0 y) 7, L (L za0 y) 8, L (L za0 y) 9, L (L za0 y) 10, L (L za0 y) 11, L (L za0 y) 12, L (L za0 y) 13, L (L za0 y) 14, L (L za0 y) 15]) 0), .int .u8 (L (L za1 [L (L za0 y) 0, L (L za0 y) 1, L (L za0 y) 2, L (L za0 y) 3, L (L za0 y) 4, L (L za0 y) 5, L (L za0 y) 6, L (L za0 y) 7, L (L za0 y) 8, L (L za0 y) 9, L (L za0 y) 10, L (L za0 y) 11, L (L za0 y) 12, L (L za0 y) 13, L (L za0 y) 14, L (L za0 y) 15]) 1), .int .u8 (L (L za1 [L (L za0 y) 0, L (L za0 y) 1, L (L za0 y) 2, L (L za0 y) 3, L (L za0 y) 4, L (L za0 y) 5, L (L za0 y) 6, L (L za0 y) 7, L (L za0 y) 8, L (L za0 y) 9, L (L za0 y) 10, L (L za0 y) 11, L (L za0 y) 12, L (L za0 y) 13, L (L za0 y) 14, L (L za0 y) 15]) 2), .int .u8 (L (L za1 [L (L za0 y) 0, L (L za0 y) 1, L (L za0 y) 2, L (L za0 y) 3, L (L za0 y) 4, L (L za0 y) 5, L (L za0 y) 6, L (L za0 y) 7, L (L za0 y) 8, L (L za0 y) 9, L (L za0 y) 10, L (L za0 y) 11, L (L za0 y) 12, L (L za0 y) 13, L (L za0 y) 14, L (L za0 y) 15]) 3), .int .u8 (L (L za1 [L (L za0 y) 0, L (L za0 y) 1, L (L za0 y) 2, L (L za0 y) 3, L (L za0 y) 4, L (L za0 y) 5, L (L za0 y) 6, L (L za0 y) 7, L (L za0 y) 8, L (L za0 y) 9, L (L za0 y) 10, L (L za0 y) 11, L (L za0 y) 12, L (L za0 y) 13, L (L za0 y) 14, L (L za0 y) 15]) 4), .int .u8 (L (L za1 [L (L za0 y) 0, L (L za0 y) 1, L (L za0 y) 2, L (L za0 y) 3, L (L za0 y) 4, L (L za0 y) 5, L (L za0 y) 6, L (L za0 y) 7, L (L za0 y) 8, L (L za0 y) 9, L (L za0 y) 10, L (L za0 y) 11, L (L za0 y) 12, L (L za0 y) 13, L (L za0 y) 14, L (L za0 y) 15]) 5), .int .u8 (L (L za1 [L (L za0 y) 0, L (L za0 y) 1, L (L za0 y) 2, L (L za0 y) 3, L (L za0 y) 4, L (L za0 y) 5, L (L za0 y) 6, L (L za0 y) 7, L (L za0 y) 8, L (L za0 y) 9, L (L za0 y) 10, L (L za0 y) 11, L (L za0 y) 12, L (L za0 y) 13, L (L za0 y) 14, L (L za0 y) 15]) 6), .int .u8 (L (L za1 [L (L za0 y) 0, L (L za0 y) 1, L (L za0 y) 2, L (L za0 y) 3, L (L za0 y) 4, L (L za0 y) 5, L (L za0 y) 6, L (L za0 y) 7, L (L za0 y) 8, L (L za0 y) 9, L (L za0 y) 10, L (L za0 y) 11, L (L za0 y) 12, L (L za0 y) 13, L (L za0 y) 14, L (L za0 y) 15]) 7), .int .u8 (L (L za1 [L (L za0 y) 0, L (L za0 y) 1, L (L za0 y) 2, L (L za0 y) 3, L (L za0 y) 4, L (L za0 y) 5, L (L za0 y) 6, L (L za0 y) 7, L (L za0 y) 8, L (L za0 y) 9, L (L za0 y) 10, L (L za0 y) 11, L (L za0 y) 12, L (L za0 y) 13, L (L za0 y) 14, L (L za0 y) 15]) 8), .int .u8 (L (L za1 [L (L za0 y) 0, L (L za0 y) 1, L (L za0 y) 2, L (L za0 y) 3, L (L za0 y) 4, L (L za0 y) 5, L (L za0 y) 6, L (L za0 y) 7, L (L za0 y) 8, L (L za0 y) 9, L (L za0 y) 10, L (L za0 y) 11, L (L za0 y) 12, L (L za0 y) 13, L (L za0 y) 14, L (L za0 y) 15]) 9), .int .u8 (L (L za1 [L (L za0 y) 0, L (L za0 y) 1, L (L za0 y) 2, L (L za0 y) 3, L (L za0 y) 4, L (L za0 y) 5, L (L za0 y) 6, L (L za0 y) 7, L (L za0 y) 8, L (L za0 y) 9, L (L za0 y) 10, L (L za0 y) 11, L (L za0 y) 12, L (L za0 y) 13, L (L za0 y) 14, L (L za0 y) 15]) 10), .int .u8 (L (L za1 [L (L za0 y) 0, L (L za0 y) 1, L (L za0 y) 2, L (L za0 y) 3, L (L za0 y) 4, L (L za0 y) 5, L (L za0 y) 6, L (L za0 y) 7, L (L za0 y) 8, L (L za0 y) 9, L (L za0 y) 10, L (L za0 y) 11, L (L za0 y) 12, L (L za0 y) 13, L (L za0 y) 14, L (L za0 y) 15]) 11), .int .u8 (L (L za1 [L (L za0 y) 0, L (L za0 y) 1, L (L za0 y) 2, L (L za0 y) 3, L (L za0 y) 4, L (L za0 y) 5, L (L za0 y) 6, L (L za0 y) 7, L (L za0 y) 8, L (L za0 y) 9, L (L za0 y) 10, L (L za0 y) 11, L (L za0 y) 12, L (L za0 y) 13, L (L za0 y) 14, L (L za0 y) 15]) 12), .int .u8 (L (L za1 [L (L za0 y) 0, L (L za0 y) 1, L (L za0 y) 2, L (L za0 y) 3, L (L za0 y) 4, L (L za0 y) 5, L (L za0 y) 6, L (L za0 y) 7, L (L za0 y) 8, L (L za0 y) 9, L (L za0 y) 10, L (L za0 y) 11, L (L za0 y) 12, L (L za0 y) 13, L (L za0 y) 14, L (L za0 y) 15]) 13), .int .u8 (L (L za1 [L (L za0 y) 0, L (L za0 y) 1, L (L za0 y) 2, L (L za0 y) 3, L (L za0 y) 4, L (L za0 y) 5, L (L za0 y) 6, L (L za0 y) 7, L (L za0 y) 8, L (L za0 y) 9, L (L za0 y) 10, L (L za0 y) 11, L (L za0 y) 12, L (L za0 y) 13, L (L za0 y) 14, L (L za0 y) 15]) 14), .int .u8 (L (L za1 [L (L za0 y) 0, L (L za0 y) 1, L (L za0 y) 2, L (L za0 y) 3, L (L za0 y) 4, L (L za0 y) 5, L (L za0 y) 6, L (L za0 y) 7, L (L za0 y) 8, L (L za0 y) 9, L (L za0 y) 10, L (L za0 y) 11, L (L za0 y) 12, L (L za0 y) 13, L (L za0 y) 14, L (L za0 y) 15]) 15), .int .i64 d, .bool h])) = True := by subst hL; exact fun y d h => eq_true (zc9 ⟨y, d, h⟩).1
 have hEta : ∀ y : Le, L (L (L Le.mk (L Le.p y)) (L Le.d y)) (L Le.h y) = y := by subst hL; exact fun y => rfl
 have hMp : ∀ (y : Pr) (d : Int) (h : Bool), L Le.p (L (L (L Le.mk y) d) h) = y := by subst hL; exact fun y d h => rfl
 have hQ0 : ∀ y : Pr, L zar (.agg [.int .u8 (L (L za0 y) 0), .int .u8 (L (L za0 y) 1), .int .u8 (L (L za0 y) 2), .int .u8 (L (L za0 y) 3), .int .u8 (L (L za0 y) 4), .int .u8 (L (L za0 y) 5), .int .u8 (L (L za0 y) 6), .int .u8 (L (L za0 y) 7), .int .u8 (L (L za0 y) 8), .int .u8 (L (L za0 y) 9), .int .u8 (L (L za0 y) 10), .int .u8 (L (L za0 y) 11), .int .u8 (L (L za0 y) 12), .int .u8 (L (L za0 y) 13), .int .u8 (L (L za0 y) 14), .int .u8 (L (L za0 y) 15)]) = y := by subst hL; exact fun y => (zc3 y).2
 have hQo : ∀ y : Pr, (L zd2 (.agg [.int .u8 (L (L za0 y) 0), .int .u8 (L (L za0 y) 1), .int .u8 (L (L za0 y) 2), .int .u8 (L (L za0 y) 3), .int .u8 (L (L za0 y) 4), .int .u8 (L (L za0 y) 5), .int .u8 (L (L za0 y) 6), .int .u8 (L (L za0 y) 7), .int .u8 (L (L za0 y) 8), .int .u8 (L (L za0 y) 9), .int .u8 (L (L za0 y) 10), .int .u8 (L (L za0 y) 11), .int .u8 (L (L za0 y) 12), .int .u8 (L (L za0 y) 13), .int .u8 (L (L za0 y) 14), .int .u8 (L (L za0 y) 15)])) = True := by subst hL; exact fun y => eq_true (zc3 y).1
 have hQ1 : ∀ y : Pr, L zar (.agg [.int .u8 (L (L za1 [L (L za0 y) 0, L (L za0 y) 1, L (L za0 y) 2, L (L za0 y) 3, L (L za0 y) 4, L (L za0 y) 5, L (L za0 y) 6, L (L za0 y) 7, L (L za0 y) 8, L (L za0 y) 9, L (L za0 y) 10, L (L za0 y) 11, L (L za0 y) 12, L (L za0 y) 13, L (L za0 y) 14, L (L za0 y) 15]) 0), .int .u8 (L (L za1 [L (L za0 y) 0, L (L za0 y) 1, L (L za0 y) 2, L (L za0 y) 3, L (L za0 y) 4, L (L za0 y) 5, L (L za0 y) 6, L (L za0 y) 7, L (L za0 y) 8, L (L za0 y) 9, L (L za0 y) 10, L (L za0 y) 11, L (L za0 y) 12, L (L za0 y) 13, L (L za0 y) 14, L (L za0 y) 15]) 1), .int .u8 (L (L za1 [L (L za0 y) 0, L (L za0 y) 1, L (L za0 y) 2, L (L za0 y) 3, L (L za0 y) 4, L (L za0 y) 5, L (L za0 y) 6, L (L za0 y) 7, L (L za0 y) 8, L (L za0 y) 9, L (L za0 y) 10, L (L za0 y) 11, L (L za0 y) 12, L (L za0 y) 13, L (L za0 y) 14, L (L za0 y) 15]) 2), .int .u8 (L (L za1 [L (L za0 y) 0, L (L za0 y) 1, L (L za0 y) 2, L (L za0 y) 3, L (L za0 y) 4, L (L za0 y) 5, L (L za0 y) 6, L (L za0 y) 7, L (L za0 y) 8, L (L za0 y) 9, L (L za0 y) 10, L (L za0 y) 11, L (L za0 y) 12, L (L za0 y) 13, L (L za0 y) 14, L (L za0 y) 15]) 3), .int .u8 (L (L za1 [L (L za0 y) 0, L (L za0 y) 1, L (L za0 y) 2, L (L za0 y) 3, L (L za0 y) 4, L (L za0 y) 5, L (L za0 y) 6, L (L za0 y) 7, L (L za0 y) 8, L (L za0 y) 9, L (L za0 y) 10, L (L za0 y) 11, L (L za0 y) 12, L (L za0 y) 13, L (L za0 y) 14, L (L za0 y) 15]) 4), .int .u8 (L (L za1 [L (L za0 y) 0, L (L za0 y) 1, L (L za0 y) 2, L (L za0 y) 3, L (L za0 y) 4, L (L za0 y) 5, L (L za0 y) 6, L (L za0 y) 7, L (L za0 y) 8, L (L za0 y) 9, L (L za0 y) 10, L (L za0 y) 11, L (L za0 y) 12, L (L za0 y) 13, L (L za0 y) 14, L (L za0 y) 15]) 5), .int .u8 (L (L za1 [L (L za0 y) 0, L (L za0 y) 1, L (L za0 y) 2, L (L za0 y) 3, L (L za0 y) 4, L (L za0 y) 5, L (L za0 y) 6, L (L za0 y) 7, L (L za0 y) 8, L (L za0 y) 9, L (L za0 y) 10, L (L za0 y) 11, L (L za0 y) 12, L (L za0 y) 13, L (L za0 y) 14, L (L za0 y) 15]) 6), .int .u8 (L (L za1 [L (L za0 y) 0, L (L za0 y) 1, L (L za0 y) 2, L (L za0 y) 3, L (L za0 y) 4, L (L za0 y) 5, L (L za0 y) 6, L (L za0 y) 7, L (L za0 y) 8, L (L za0 y) 9, L (L za0 y) 10, L (L za0 y) 11, L (L za0 y) 12, L (L za0 y) 13, L (L za0 y) 14, L (L za0 y) 15]) 7), .int .u8 (L (L za1 [L (L za0 y) 0, L (L za0 y) 1, L (L za0 y) 2, L (L za0 y) 3, L (L za0 y) 4, L (L za0 y) 5, L (L za0 y) 6, L (L za0 y) 7, L (L za0 y) 8, L (L za0 y) 9, L (L za0 y) 10, L (L za0 y) 11, L (L za0 y) 12, L (L za0 y) 13, L (L za0 y) 14, L (L za0 y) 15]) 8), .int .u8 (L (L za1 [L (L za0 y) 0, L (L za0 y) 1, L (L za0 y) 2, L (L za0 y) 3, L (L za0 y) 4, L (L za0 y) 5, L (L za0 y) 6, L (L za0 y) 7, L (L za0 y) 8, L (L za0 y) 9, L (L za0 y) 10, L (L za0 y) 11, L (L za0 y) 12, L (L za0 y) 13, L (L za0 y) 14, L (L za0 y) 15]) 9), .int .u8 (L (L za1 [L (L za0 y) 0, L (L za0 y) 1, L (L za0 y) 2, L (L za0 y) 3, L (L za0 y) 4, L (L za0 y) 5, L (L za0 y) 6, L (L za0 y) 7, L (L za0 y) 8, L (L za0 y) 9, L (L za0 y) 10, L (L za0 y) 11, L (L za0 y) 12, L (L za0 y) 13, L (L za0 y) 14, L (L za0 y) 15]) 10), .int .u8 (L (L za1 [L (L za0 y) 0, L (L za0 y) 1, L (L za0 y) 2, L (L za0 y) 3, L (L za0 y) 4, L (L za0 y) 5, L (L za0 y) 6, L (L za0 y) 7, L (L za0 y) 8, L (L za0 y) 9, L (L za0 y) 10, L (L za0 y) 11, L (L za0 y) 12, L (L za0 y) 13, L (L za0 y) 14, L (L za0 y) 15]) 11), .int .u8 (L (L za1 [L (L za0 y) 0, L (L za0 y) 1, L (L za0 y) 2, L (L za0 y) 3, L (L za0 y) 4, L (L za0 y) 5, L (L za0 y) 6, L (L za0 y) 7, L (L za0 y) 8, L (L za0 y) 9, L (L za0 y) 10, L (L za0 y) 11, L (L za0 y) 12, L (L za0 y) 13, L (L za0 y) 14, L (L za0 y) 15]) 12), .int .u8 (L (L za1 [L (L za0 y) 0, L (L za0 y) 1, L (L za0 y) 2, L (L za0 y) 3, L (L za0 y) 4, L (L za0 y) 5, L (L za0 y) 6, L (L za0 y) 7, L (L za0 y) 8, L (L za0 y) 9, L (L za0 y) 10, L (L za0 y) 11, L (L za0 y) 12, L (L za0 y) 13, L (L za0 y) 14, L (L za0 y) 15]) 13), .int .u8 (L (L za1 [L (L za0 y) 0, L (L za0 y) 1, L (L za0 y) 2, L (L za0 y) 3, L (L za0 y) 4, L (L za0 y) 5, L (L za0 y) 6, L (L za0 y) 7, L (L za0 y) 8, L (L za0 y) 9, L (L za0 y) 10, L (L za0 y) 11, L (L za0 y) 12, L (L za0 y) 13, L (L za0 y) 14, L (L za0 y) 15]) 14), .int .u8 (L (L za1 [L (L za0 y) 0, L (L za0 y) 1, L (L za0 y) 2, L (L za0 y) 3, L (L za0 y) 4, L (L za0 y) 5, L (L za0 y) 6, L (L za0 y) 7, L (L za0 y) 8, L (L za0 y) 9, L (L za0 y) 10, L (L za0 y) 11, L (L za0 y) 12, L (L za0 y) 13, L (L za0 y) 14, L (L za0 y) 15]) 15)]) = y := by subst hL; exact fun y => (zc3 y).2
 have hQ1o : ∀ y : Pr, (L zd2 (.agg [.int .u8 (L (L za1 [L (L za0 y) 0, L (L za0 y) 1, L (L za0 y) 2, L (L za0 y) 3, L (L za0 y) 4, L (L za0 y) 5, L (L za0 y) 6, L (L za0 y) 7, L (L za0 y) 8, L (L za0 y) 9, L (L za0 y) 10, L (L za0 y) 11, L (L za0 y) 12, L (L za0 y) 13, L (L za0 y) 14, L (L za0 y) 15]) 0), .int .u8 (L (L za1 [L (L za0 y) 0, L (L za0 y) 1, L (L za0 y) 2, L (L za0 y) 3, L (L za0 y) 4, L (L za0 y) 5, L (L za0 y) 6, L (L za0 y) 7, L (L za0 y) 8, L (L za0 y) 9, L (L za0 y) 10, L (L za0 y) 11, L (L za0 y) 12, L (L za0 y) 13, L (L za0 y) 14, L (L za0 y) 15]) 1), .int .u8 (L (L za1 [L (L za0 y) 0, L (L za0 y) 1, L (L za0 y) 2, L (L za0 y) 3, L (L za0 y) 4, L (L za0 y) 5, L (L za0 y) 6, L (L za0 y) 7, L (L za0 y) 8, L (L za0 y) 9, L (L za0 y) 10, L (L za0 y) 11, L (L za0 y) 12, L (L za0 y) 13, L (L za0 y) 14, L (L za0 y) 15]) 2), .int .u8 (L (L za1 [L (L za0 y) 0, L (L za0 y) 1, L (L za0 y) 2, L (L za0 y) 3, L (L za0 y) 4, L (L za0 y) 5, L (L za0 y) 6, L (L za0 y) 7, L (L za0 y) 8, L (L za0 y) 9, L (L za0 y) 10, L (L za0 y) 11, L (L za0 y) 12, L (L za0 y) 13, L (L za0 y) 14, L (L za0 y) 15]) 3), .int .u8 (L (L za1 [L (L za0 y) 0, L (L za0 y) 1, L (L za0 y) 2, L (L za0 y) 3, L (L za0 y) 4, L (L za0 y) 5, L (L za0 y) 6, L (L za0 y) 7, L (L za0 y) 8, L (L za0 y) 9, L (L za0 y) 10, L (L za0 y) 11, L (L za0 y) 12, L (L za0 y) 13, L (L za0 y) 14, L (L za0 y) 15]) 4), .int .u8 (L (L za1 [L (L za0 y) 0, L (L za0 y) 1, L (L za0 y) 2, L (L za0 y) 3, L (L za0 y) 4, L (L za0 y) 5, L (L za0 y) 6, L (L za0 y) 7, L (L za0 y) 8, L (L za0 y) 9, L (L za0 y) 10, L (L za0 y) 11, L (L za0 y) 12, L (L za0 y) 13, L (L za0 y) 14, L (L za0 y) 15]) 5), .int .u8 (L (L za1 [L (L za0 y) 0, L (L za0 y) 1, L (L za0 y) 2, L (L za0 y) 3, L (L za0 y) 4, L (L za0 y) 5, L (L za0 y) 6, L (L za0 y) 7, L (L za0 y) 8, L (L za0 y) 9, L (L za0 y) 10, L (L za0 y) 11, L (L za0 y) 12, L (L za0 y) 13, L (L za0 y) 14, L (L za0 y) 15]) 6), .int .u8 (L (L za1 [L (L za0 y) 0, L (L za0 y) 1, L (L za0 y) 2, L (L za0 y) 3, L (L za0 y) 4, L (L za0 y) 5, L (L za0 y) 6, L (L za0 y) 7, L (L za0 y) 8, L (L za0 y) 9, L (L za0 y) 10, L (L za0 y) 11, L (L za0 y) 12, L (L za0 y) 13, L (L za0 y) 14, L (L za0 y) 15]) 7), .int .u8 (L (L za1 [L (L za0 y) 0, L (L za0 y) 1, L (L za0 y) 2, L (L za0 y) 3, L (L za0 y) 4, L (L za0 y) 5, L (L za0 y) 6, L (L za0 y) 7, L (L za0 y) 8, L (L za0 y) 9, L (L za0 y) 10, L (L za0 y) 11, L (L za0 y) 12, L (L za0 y) 13, L (L za0 y) 14, L (L za0 y) 15]) 8), .int .u8 (L (L za1 [L (L za0 y) 0, L (L za0 y) 1, L (L za0 y) 2, L (L za0 y) 3, L (L za0 y) 4, L (L za0 y) 5, L (L za0 y) 6, L (L za0 y) 7, L (L za0 y) 8, L (L za0 y) 9, L (L za0 y) 10, L (L za0 y) 11, L (L za0 y) 12, L (L za0 y) 13, L (L za0 y) 14, L (L za0 y) 15]) 9), .int .u8 (L (L za1 [L (L za0 y) 0, L (L za0 y) 1, L (L za0 y) 2, L (L za0 y) 3, L (L za0 y) 4, L (L za0 y) 5, L (L za0 y) 6, L (L za0 y) 7, L (L za0 y) 8, L (L za0 y) 9, L (L za0 y) 10, L (L za0 y) 11, L (L za0 y) 12, L (L za0 y) 13, L (L za0 y) 14, L (L za0 y) 15]) 10), .int .u8 (L (L za1 [L (L za0 y) 0, L (L za0 y) 1, L (L za0 y) 2, L (L za0 y) 3, L (L za0 y) 4, L (L za0 y) 5, L (L za0 y) 6, L (L za0 y) 7, L (L za0 y) 8, L (L za0 y) 9, L (L za0 y) 10, L (L za0 y) 11, L (L za0 y) 12, L (L za0 y) 13, L (L za0 y) 14, L (L za0 y) 15]) 11), .int .u8 (L (L za1 [L (L za0 y) 0, L (L za0 y) 1, L (L za0 y) 2, L (L za0 y) 3, L (L za0 y) 4, L (L za0 y) 5, L (L za0 y) 6, L (L za0 y) 7, L (L za0 y) 8, L (L za0 y) 9, L (L za0 y) 10, L (L za0 y) 11, L (L za0 y) 12, L (L za0 y) 13, L (L za0 y) 14, L (L za0 y) 15]) 12), .int .u8 (L (L za1 [L (L za0 y) 0, L (L za0 y) 1, L (L za0 y) 2, L (L za0 y) 3, L (L za0 y) 4, L (L za0 y) 5, L (L za0 y) 6, L (L za0 y) 7, L (L za0 y) 8, L (L za0 y) 9, L (L za0 y) 10, L (L za0 y) 11, L (L za0 y) 12, L (L za0 y) 13, L (L za0 y) 14, L (L za0 y) 15]) 13), .int .u8 (L (L za1 [L (L za0 y) 0, L (L za0 y) 1, L (L za0 y) 2, L (L za0 y) 3, L (L za0 y) 4, L (L za0 y) 5, L (L za0 y) 6, L (L za0 y) 7, L (L za0 y) 8, L (L za0 y) 9, L (L za0 y) 10, L (L za0 y) 11, L (L za0 y) 12, L (L za0 y) 13, L (L za0 y) 14, L (L za0 y) 15]) 14), .int .u8 (L (L za1 [L (L za0 y) 0, L (L za0 y) 1, L (L za0 y) 2, L (L za0 y) 3, L (L za0 y) 4, L (L za0 y) 5, L (L za0 y) 6, L (L za0 y) 7, L (L za0 y) 8, L (L za0 y) 9, L (L za0 y) 10, L (L za0 y) 11, L (L za0 y) 12, L (L za0 y) 13, L (L za0 y) 14, L (L za0 y) 15]) 15)])) = True := by subst hL; exact fun y => eq_true (zc3 y).1
 have hG : ∀ y : List Le, L zak (.lst 18 (L zfl y) (fun i => leC L (L (L zao y) i))) = y := by subst hL; exact fun y => zoh y
 have hGo : ∀ y : List Le, (L zfa (.lst 18 (L zfl y) (fun i => leC L (L (L zao y) i)))) = True := by subst hL; exact fun y => eq_true (zos y)
 obtain ⟨nl, hnl⟩ : ∃ nl, nl = l.length := ⟨_, rfl⟩
 (cbv; try simp only [syT, true_and, and_true])
 refine ⟨⟨(0, nl), ?_⟩, fun x hx => ?_⟩
 · (cbv; try simp only [syT, true_and, and_true])
   (subst hL; subst hQ; simp only [L2, L3, std] at *; try simp only [syS, reduceCtorEq, Int.reduceToNat, Int.reduceAdd, Int.reduceSub] at *)
   subst hnl
   exact ⟨rfl, Nat.zero_le _, hlb, Nat.le_refl _⟩
 · cbv at hx
   (cbv; try simp only [syT, true_and, and_true])
   simp only [hE, hEo, hF, hFo, hEta, hMp, hQ1, hQ1o, hQ0, hQo, hG, hGo, true_and]
   generalize hm : L IntKind.i64.wrap (L (L (zmh .u64) (L IntKind.u64.wrap (L (L (zce .i64) (L zab (L Prod.fst x))) (L zab (L Prod.snd x))))) 1) = m
   refine ⟨fun hlt => ⟨?_, ?_, ?_, fun hc => ?_, fun hc => ?_⟩, fun hge => ?_⟩
   · (subst hL; subst hQ; simp only [L2, L3, std] at *; try simp only [syS, reduceCtorEq, Int.reduceToNat, Int.reduceAdd, Int.reduceSub] at *)
     decide
   · (subst hL; subst hQ; simp only [L2, L3, std] at *; try simp only [syS, reduceCtorEq, Int.reduceToNat, Int.reduceAdd, Int.reduceSub] at *)
     obtain ⟨x1, x2, x3⟩ := hx
     have hmm := znz (by omega) hlt hm
     clear hm
     omega
   · (subst hL; subst hQ; simp only [L2, L3, std] at *; try simp only [syS, reduceCtorEq, Int.reduceToNat, Int.reduceAdd, Int.reduceSub] at *)
     obtain ⟨x1, x2, x3⟩ := hx
     have hmm := znz (by omega) hlt hm
     clear hm
     have hl : m.toNat < l.length := by omega
     refine ⟨?_, hpo⟩
     show zgx (zao l m.toNat).p
     rw [zga hl]
     exact (hok.ok _ (List.getElem_mem hl)).1
   · obtain ⟨y, hy⟩ : ∃ y : Nat × Nat, y = (m.toNat + 1, x.2) := ⟨_, rfl⟩
     refine ⟨y, ?_⟩
     (cbv; try simp only [syT, true_and, and_true])
     (subst hL; subst hQ; simp only [L2, L3, std] at *; try simp only [syS, reduceCtorEq, Int.reduceToNat, Int.reduceAdd, Int.reduceSub] at *)
     obtain ⟨x1, x2, x3⟩ := hx
     have hmm := znz (by omega) hlt hm
     clear hm
     have hl : m.toNat < l.length := by omega
     rw [zga hl, ygg] at hc
     have hlt2 : m.toNat < zc6 (prN p) l := by
       rcases Nat.lt_or_ge m.toNat (zc6 (prN p) l) with h | h
       · exact h
       · have := znb hok.ris hl h
         have hc : kLe l[m.toNat] < prN p := hc
         omega
     subst hy
     refine ⟨rfl, by show _ = ((m.toNat + 1 : Nat) : Int); omega, ⟨hlt2, x2, x3⟩, ?_⟩
     show x.2 - (m.toNat + 1) + 1 <= x.2 - x.1
     omega
   · obtain ⟨y, hy⟩ : ∃ y : Nat × Nat, y = (x.1, m.toNat) := ⟨_, rfl⟩
     refine ⟨y, ?_⟩
     (cbv; try simp only [syT, true_and, and_true])
     (subst hL; subst hQ; simp only [L2, L3, std] at *; try simp only [syS, reduceCtorEq, Int.reduceToNat, Int.reduceAdd, Int.reduceSub] at *)
     obtain ⟨x1, x2, x3⟩ := hx
     have hmm := znz (by omega) hlt hm
     clear hm
     have hl : m.toNat < l.length := by omega
     have hc : ¬ zol (zao l m.toNat).p p < 0 := by omega
     rw [zga hl, ygg] at hc
     have hge2 : ¬ m.toNat < zc6 (prN p) l := fun h => hc (zi7 hl h)
     subst hy
     refine ⟨by show m = ((m.toNat : Nat) : Int); omega, rfl, ⟨x1, by show zc6 (prN p) l <= m.toNat; omega, by show m.toNat <= l.length; omega⟩, ?_⟩
     show m.toNat - x.1 + 1 <= x.2 - x.1
     omega
   · (subst hL; subst hQ; simp only [L2, L3, std] at *; try simp only [syS, reduceCtorEq, Int.reduceToNat, Int.reduceAdd, Int.reduceSub] at *)
     obtain ⟨x1, x2, x3⟩ := hx
     clear hm
     have e : x.1 = zc6 (prN p) l := by omega
     obtain ⟨k1, k2⟩ := yig hok hpo e
     refine ⟨fun h1 => ⟨⟨by omega, h1⟩, ⟨?_, hpo⟩, by rw [e]; rfl, k1 (by omega)⟩, fun h1 => ⟨by rw [e]; rfl, k2 (by omega)⟩⟩
     show zgx (zao l x.1).p
     have hl : x.1 < l.length := by omega
     rw [zga hl]
     exact (hok.ok _ (List.getElem_mem hl)).1
def zy5 (L : za9) : zcw := (24, fun xs => match xs with
 | [.agg [x], q] => some (L zfa x /\ L zd2 q /\ L zdz (L zak x) /\ L zde (L zak x) /\ L zgx (L zar q), .tup [.int .i64 (L2 L ze0 (L zak x) (L zar q)), .bool (L2 L ztb (L zak x) (L zar q))])
 | _ => none)
theorem yoy {h : Array Obj} {D : Nat -> Prop} {x y : AV} {xs : List AV} {vs : Array Value} (k : ∀ v, R h D zap x v -> R h D zap y v) (hr : RL h D zap (.agg [x] :: xs) vs) : RL h D zap (.agg [y] :: xs) vs := by
 refine ⟨hr.1, fun i z v hz hv => ?_⟩
 match i, hz with
 | 0, hz =>
   cases hz
   have r := hr.2 0 _ v rfl hv
   obtain ⟨us, rfl, o1, s1, hr'⟩ := r.inv_agg
   refine .agg _ _ s1 o1 fun j z w hz hw => ?_
   match j, hz with
   | 0, hz => cases hz; exact k w (hr' 0 x w rfl hw)
 | i + 1, hz => exact hr.2 (i + 1) z v hz hv
theorem ybg {α : Type} {V : Vw α} (K : ybh V) {P : Program} {f : FuncId} {x r : AV} {xs : List AV} (ho : okW V x) (h : zac P f (.agg [zv6 std V (rdW V x)] :: xs) r) : zac P f (.agg [x] :: xs) r :=
 zht (fun h D vs hr => yoy (fun v => yly K ho) hr) h
theorem zmw : zdd Tryz.prog (zy5 std) := by
 intro xs p r h hp
 dsimp only [zy5] at h |-
 split at h <;> cases h
 try simp only [L2, L3, std] at hp |-
 rename_i x q
 obtain ⟨ho, ho2, hz, hok, hpo⟩ := hp
 refine ybg zed ho (zvt zlp ho2 ?_)
 rw [zk3]
 have hz : zdz (zak x) := hz
 have hok : zde (zak x) := hok
 have hpo : zgx (zar q) := hpo
 show zac _ _ (.agg [zv6 std leV (zak x)] :: zux std (zar q) :: _) (.tup [.int .i64 (ze0 (zak x) (zar q)), .bool (ztb (zak x) (zar q))])
 generalize zak x = l at hz hok |-
 generalize zar q = p at hpo |-
 refine zau (T := tt) (S := fun L => zbf [yif L]) (lo := noA) (lb := noA) 5 (fn := Tryz.f24) (xs := fun L => [.agg [zdb L l], zux L p]) rfl rfl (by kernel_rfl) (by kernel_rfl) rfl zae (za7 ⟨ydv, trivial⟩) (by kernel_rfl) ?_
 intro L P' Q' hL hP hQ
 have hE : ∀ (y : Pr) (d : Int) (h : Bool), L zc4 (.agg [.int .u8 (L (L za0 y) 0), .int .u8 (L (L za0 y) 1), .int .u8 (L (L za0 y) 2), .int .u8 (L (L za0 y) 3), .int .u8 (L (L za0 y) 4), .int .u8 (L (L za0 y) 5), .int .u8 (L (L za0 y) 6), .int .u8 (L (L za0 y) 7), .int .u8 (L (L za0 y) 8), .int .u8 (L (L za0 y) 9), .int .u8 (L (L za0 y) 10), .int .u8 (L (L za0 y) 11), .int .u8 (L (L za0 y) 12), .int .u8 (L (L za0 y) 13), .int .u8 (L (L za0 y) 14), .int .u8 (L (L za0 y) 15), .int .i64 d, .bool h]) = L (L (L Le.mk y) d) h := by subst hL; exact fun y d h => (zc9 ⟨y, d, h⟩).2
 have hEo : ∀ (y : Pr) (d : Int) (h : Bool), (L zei (.agg [.int .u8 (L (L za0 y) 0), .int .u8 (L (L za0 y) 1), .int .u8 (L (L za0 y) 2), .int .u8 (L (L za0 y) 3), .int .u8 (L (L za0 y) 4), .int .u8 (L (L za0 y) 5), .int .u8 (L (L za0 y) 6), .int .u8 (L (L za0 y) 7), .int .u8 (L (L za0 y) 8), .int .u8 (L (L za0 y) 9), .int .u8 (L (L za0 y) 10), .int .u8 (L (L za0 y) 11), .int .u8 (L (L za0 y) 12), .int .u8 (L (L za0 y) 13), .int .u8 (L (L za0 y) 14), .int .u8 (L (L za0 y) 15), .int .i64 d, .bool h])) = True := by subst hL; exact fun y d h => eq_true (zc9 ⟨y, d, h⟩).1
 have hF : ∀ (y : Pr) (d : Int) (h : Bool), L zc4 (.agg [.int .u8 (L (L za1 [L (L za0 y) 0, L (L za0 y) 1, L (L za0 y) 2, L (L za0 y) 3, L (L za0 y) 4, L (L za0 y) 5, L (L za0 y) 6, L (L za0 y) 7, L (L za0 y) 8, L (L za0 y) 9, L (L za0 y) 10, L (L za0 y) 11, L (L za0 y) 12, L (L za0 y) 13, L (L za0 y) 14, L (L za0 y) 15]) 0), .int .u8 (L (L za1 [L (L za0 y) 0, L (L za0 y) 1, L (L za0 y) 2, L (L za0 y) 3, L (L za0 y) 4, L (L za0 y) 5, L (L za0 y) 6, L (L za0 y) 7, L (L za0 y) 8, L (L za0 y) 9, L (L za0 y) 10, L (L za0 y) 11, L (L za0 y) 12, L (L za0 y) 13, L (L za0 y) 14, L (L za0 y) 15]) 1), .int .u8 (L (L za1 [L (L za0 y) 0, L (L za0 y) 1, L (L za0 y) 2, L (L za0 y) 3, L (L za0 y) 4, L (L za0 y) 5, L (L za0 y) 6, L (L za0 y) 7, L (L za0 y) 8, L (L za0 y) 9, L (L za0 y) 10, L (L za0 y) 11, L (L za0 y) 12, L (L za0 y) 13, L (L za0 y) 14, L (L za0 y) 15]) 2), .int .u8 (L (L za1 [L (L za0 y) 0, L (L za0 y) 1, L (L za0 y) 2, L (L za0 y) 3, L (L za0 y) 4, L (L za0 y) 5, L (L za0 y) 6, L (L za0 y) 7, L (L za0 y) 8, L (L za0 y) 9, L (L za0 y) 10, L (L za0 y) 11, L (L za0 y) 12, L (L za0 y) 13, L (L za0 y) 14, L (L za0 y) 15]) 3), .int .u8 (L (L za1 [L (L za0 y) 0, L (L za0 y) 1, L (L za0 y) 2, L (L za0 y) 3, L (L za0 y) 4, L (L za0 y) 5, L (L za0 y) 6, L (L za0 y) 7, L (L za0 y) 8, L (L za0 y) 9, L (L za0 y) 10, L (L za0 y) 11, L (L za0 y) 12, L (L za0 y) 13, L (L za0 y) 14, L (L za0 y) 15]) 4), .int .u8 (L (L za1 [L (L za0 y) 0, L (L za0 y) 1, L (L za0 y) 2, L (L za0 y) 3, L (L za0 y) 4, L (L za0 y) 5, L (L za0 y) 6, L (L za0 y) 7, L (L za0 y) 8, L (L za0 y) 9, L (L za0 y) 10, L (L za0 y) 11, L (L za0 y) 12, L (L za0 y) 13, L (L za0 y) 14, L (L za0 y) 15]) 5), .int .u8 (L (L za1 [L (L za0 y) 0, L (L za0 y) 1, L (L za0 y) 2, L (L za0 y) 3, L (L za0 y) 4, L (L za0 y) 5, L (L za0 y) 6, L (L za0 y) 7, L (L za0 y) 8, L (L za0 y) 9, L (L za0 y) 10, L (L za0 y) 11, L (L za0 y) 12, L (L za0 y) 13, L (L za0 y) 14, L (L za0 y) 15]) 6), .int .u8 (L (L za1 [L (L za0 y) 0, L (L za0 y) 1, L (L za0 y) 2, L (L za0 y) 3, L (L za0 y) 4, L (L za0 y) 5, L (L za0 y) 6, L (L za0 y) 7, L (L za0 y) 8, L (L za0 y) 9, L (L za0 y) 10, L (L za0 y) 11, L (L za0 y) 12, L (L za0 y) 13, L (L za0 y) 14, L (L za0 y) 15]) 7), .int .u8 (L (L za1 [L (L za0 y) 0, L (L za0 y) 1, L (L za0 y) 2, L (L za0 y) 3, L (L za0 y) 4, L (L za0 y) 5, L (L za0 y) 6, L (L za0 y) 7, L (L za0 y) 8, L (L za0 y) 9, L (L za0 y) 10, L (L za0 y) 11, L (L za0 y) 12, L (L za0 y) 13, L (L za0 y) 14, L (L za0 y) 15]) 8), .int .u8 (L (L za1 [L (L za0 y) 0, L (L za0 y) 1, L (L za0 y) 2, L (L za0 y) 3, L (L za0 y) 4, L (L za0 y) 5, L (L za0 y) 6, L (L za0 y) 7, L (L za0 y) 8, L (L za0 y) 9, L (L za0 y) 10, L (L za0 y) 11, L (L za0 y) 12, L (L za0 y) 13, L (L za0 y) 14, L (L za0 y) 15]) 9), .int .u8 (L (L za1 [L (L za0 y) 0, L (L za0 y) 1, L (L za0 y) 2, L (L za0 y) 3, L (L za0 y) 4, L (L za0 y) 5, L (L za0 y) 6, L (L za0 y) 7, L (L za0 y) 8, L (L za0 y) 9, L (L za0 y) 10, L (L za0 y) 11, L (L za0 y) 12, L (L za0 y) 13, L (L za0 y) 14, L (L za0 y) 15]) 10), .int .u8 (L (L za1 [L (L za0 y) 0, L (L za0 y) 1, L (L za0 y) 2, L (L za0 y) 3, L (L za0 y) 4, L (L za0 y) 5, L (L za0 y) 6, L (L za0 y) 7, L (L za0 y) 8, L (L za0 y) 9, L (L za0 y) 10, L (L za0 y) 11, L (L za0 y) 12, L (L za0 y) 13, L (L za0 y) 14, L (L za0 y) 15]) 11), .int .u8 (L (L za1 [L (L za0 y) 0, L (L za0 y) 1, L (L za0 y) 2, L (L za0 y) 3, L (L za0 y) 4, L (L za0 y) 5, L (L za0 y) 6, L (L za0 y) 7, L (L za0 y) 8, L (L za0 y) 9, L (L za0 y) 10, L (L za0 y) 11, L (L za0 y) 12, L (L za0 y) 13, L (L za0 y) 14, L (L za0 y) 15]) 12), .int .u8 (L (L za1 [L (L za0 y) 0, L (L za0 y) 1, L (L za0 y) 2, L (L za0 y) 3, L (L za0 y) 4, L (L za0 y) 5, L (L za0 y) 6, L (L za0 y) 7, L (L za0 y) 8, L (L za0 y) 9, L (L za0 y) 10, L (L za0 y) 11, L (L za0 y) 12, L (L za0 y) 13, L (L za0 y) 14, L (L za0 y) 15]) 13), .int .u8 (L (L za1 [L (L za0 y) 0, L (L za0 y) 1, L (L za0 y) 2, L (L za0 y) 3, L (L za0 y) 4, L (L za0 y) 5, L (L za0 y) 6, L (L za0 y) 7, L (L za0 y) 8, L (L za0 y) 9, L (L za0 y) 10, L (L za0 y) 11, L (L za0 y) 12, L (L za0 y) 13, L (L za0 y) 14, L (L za0 y) 15]) 14), .int .u8 (L (L za1 [L (L za0 y) 0, L (L za0 y) 1, L (L za0 y) 2, L (L za0 y) 3, L (L za0 y) 4, L (L za0 y) 5, L (L za0 y) 6, L (L za0 y) 7, L (L za0 y) 8, L (L za0 y) 9, L (L za0 y) 10, L (L za0 y) 11, L (L za0 y) 12, L (L za0 y) 13, L (L za0 y) 14, L (L za0 y) 15]) 15), .int .i64 d, .bool h]) = L (L (L Le.mk y) d) h := by subst hL; exact fun y d h => (zc9 ⟨y, d, h⟩).2
 have hFo : ∀ (y : Pr) (d : Int) (h : Bool), (L zei (.agg [.int .u8 (L (L za1 [L (L za0 y) 0, L (L za0 y) 1, L (L za0 y) 2, L (L za0 y) 3, L (L za0 y) 4, L (L za0 y) 5, L (L za0 y) 6, L (L za0 y) 7, L (L za0 y) 8, L (L za0 y) 9, L (L za0 y) 10, L (L za0 y) 11, L (L za0 y) 12, L (L za0 y) 13, L (L za0 y) 14, L (L za0 y) 15]) 0), .int .u8 (L (L za1 [L (L za0 y) 0, L (L za0 y) 1, L (L za0 y) 2, L (L za0 y) 3, L (L za0 y) 4, L (L za0 y) 5, L (L za0 y) 6, L (L za0 y) 7, L (L za0 y) 8, L (L za0 y) 9, L (L za0 y) 10, L (L za0 y) 11, L (L za0 y) 12, L (L za0 y) 13, L (L za0 y) 14, L (L za0 y) 15]) 1), .int .u8 (L (L za1 [L (L za0 y) 0, L (L za0 y) 1, L (L za0 y) 2, L (L za0 y) 3, L (L za0 y) 4, L (L za0 y) 5, L (L za0 y) 6, L (L za0 y) 7, L (L za0 y) 8, L (L za0 y) 9, L (L za0 y) 10, L (L za0 y) 11, L (L za0 y) 12, L (L za0 y) 13, L (L za0 y) 14, L (L za0 y) 15]) 2), .int .u8 (L (L za1 [L (L za0 y) 0, L (L za0 y) 1, L (L za0 y) 2, L (L za0 y) 3, L (L za0 y) 4, L (L za0 y) 5, L (L za0 y) 6, L (L za0 y) 7, L (L za0 y) 8, L (L za0 y) 9, L (L za0 y) 10, L (L za0 y) 11, L (L za0 y) 12, L (L za0 y) 13, L (L za0 y) 14, L (L za0 y) 15]) 3), .int .u8 (L (L za1 [L (L za0 y) 0, L (L za0 y) 1, L (L za0 y) 2, L (L za0 y) 3, L (L za0 y) 4, L (L za0 y) 5, L (L za0 y) 6, L (L za0 y) 7, L (L za0 y) 8, L (L za0 y) 9, L (L za0 y) 10, L (L za0 y) 11, L (L za0 y) 12, L (L za0 y) 13, L (L za0 y) 14, L (L za0 y) 15]) 4), .int .u8 (L (L za1 [L (L za0 y) 0, L (L za0 y) 1, L (L za0 y) 2, L (L za0 y) 3, L (L za0 y) 4, L (L za0 y) 5, L (L za0 y) 6, L (L za0 y) 7, L (L za0 y) 8, L (L za0 y) 9, L (L za0 y) 10, L (L za0 y) 11, L (L za0 y) 12, L (L za0 y) 13, L (L za0 y) 14, L (L za0 y) 15]) 5), .int .u8 (L (L za1 [L (L za0 y) 0, L (L za0 y) 1, L (L za0 y) 2, L (L za0 y) 3, L (L za0 y) 4, L (L za0 y) 5, L (L za0 y) 6, L (L za0 y) 7, L (L za0 y) 8, L (L za0 y) 9, L (L za0 y) 10, L (L za0 y) 11, L (L za0 y) 12, L (L za0 y) 13, L (L za0 y) 14, L (L za0 y) 15]) 6), .int .u8 (L (L za1 [L (L za0 y) 0, L (L za0 y) 1, L (L za0 y) 2, L (L za0 y) 3, L (L za0 y) 4, L (L za0 y) 5, L (L za0 y) 6, L (L za0 y) 7, L (L za0 y) 8, L (L za0 y) 9, L (L za0 y) 10, L (L za0 y) 11, L (L za0 y) 12, L (L za0 y) 13, L (L za0 y) 14, L (L za0 y) 15]) 7), .int .u8 (L (L za1 [L (L za0 y) 0, L (L za0 y) 1, L (L za0 y) 2, L (L za0 y) 3, L (L za0 y) 4, L (L za0 y) 5, L (L za0 y) 6, L (L za0 y) 7, L (L za0 y) 8, L (L za0 y) 9, L (L za0 y) 10, L (L za0 y) 11, L (L za0 y) 12, L (L za0 y) 13, L (L za0 y) 14, L (L za0 y) 15]) 8), .int .u8 (L (L za1 [L (L za0 y) 0, L (L za0 y) 1, L (L za0 y) 2, L (L za0 y) 3, L (L za0 y) 4, L (L za0 y) 5, L (L za0 y) 6, L (L za0 y) 7, L (L za0 y) 8, L (L za0 y) 9, L (L za0 y) 10, L (L za0 y) 11, L (L za0 y) 12, L (L za0 y) 13, L (L za0 y) 14, L (L za0 y) 15]) 9), .int .u8 (L (L za1 [L (L za0 y) 0, L (L za0 y) 1, L (L za0 y) 2, L (L za0 y) 3, L (L za0 y) 4, L (L za0 y) 5, L (L za0 y) 6, L (L za0 y) 7, L (L za0 y) 8, L (L za0 y) 9, L (L za0 y) 10, L (L za0 y) 11, L (L za0 y) 12, L (L za0 y) 13, L (L za0 y) 14, L (L za0 y) 15]) 10), .int .u8 (L (L za1 [L (L za0 y) 0, L (L za0 y) 1, L (L za0 y) 2, L (L za0 y) 3, L (L za0 y) 4, L (L za0 y) 5, L (L za0 y) 6, L (L za0 y) 7, L (L za0 y) 8, L (L za0 y) 9, L (L za0 y) 10, L (L za0 y) 11, L (L za0 y) 12, L (L za0 y) 13, L (L za0 y) 14, L (L za0 y) 15]) 11), .int .u8 (L (L za1 [L (L za0 y) 0, L (L za0 y) 1, L (L za0 y) 2, L (L za0 y) 3, L (L za0 y) 4, L (L za0 y) 5, L (L za0 y) 6, L (L za0 y) 7, L (L za0 y) 8, L (L za0 y) 9, L (L za0 y) 10, L (L za0 y) 11, L (L za0 y) 12, L (L za0 y) 13, L (L za0 y) 14, L (L za0 y) 15]) 12), .int .u8 (L (L za1 [L (L za0 y) 0, L (L za0 y) 1, L (L za0 y) 2, L (L za0 y) 3, L (L za0 y) 4, L (L za0 y) 5, L (L za0 y) 6, L (L za0 y) 7, L (L za0 y) 8, L (L za0 y) 9, L (L za0 y) 10, L (L za0 y) 11, L (L za0 y) 12, L (L za0 y) 13, L (L za0 y) 14, L (L za0 y) 15]) 13), .int .u8 (L (L za1 [L (L za0 y) 0, L (L za0 y) 1, L (L za0 y) 2, L (L za0 y) 3, L (L za0 y) 4, L (L za0 y) 5, L (L za0 y) 6, L (L za0 y) 7, L (L za0 y) 8, L (L za0 y) 9, L (L za0 y) 10, L (L za0 y) 11, L (L za0 y) 12, L (L za0 y) 13, L (L za0 y) 14, L (L za0 y) 15]) 14), .int .u8 (L (L za1 [L (L za0 y) 0, L (L za0 y) 1, L (L za0 y) 2, L (L za0 y) 3, L (L za0 y) 4, L (L za0 y) 5, L (L za0 y) 6, L (L za0 y) 7, L (L za0 y) 8, L (L za0 y) 9, L (L za0 y) 10, L (L za0 y) 11, L (L za0 y) 12, L (L za0 y) 13, L (L za0 y) 14, L (L za0 y) 15]) 15), .int .i64 d, .bool h])) = True := by subst hL; exact fun y d h => eq_true (zc9 ⟨y, d, h⟩).1
 have hEta : ∀ y : Le, L (L (L Le.mk (L Le.p y)) (L Le.d y)) (L Le.h y) = y := by subst hL; exact fun y => rfl
 have hMp : ∀ (y : Pr) (d : Int) (h : Bool), L Le.p (L (L (L Le.mk y) d) h) = y := by subst hL; exact fun y d h => rfl
 have hQ0 : ∀ y : Pr, L zar (.agg [.int .u8 (L (L za0 y) 0), .int .u8 (L (L za0 y) 1), .int .u8 (L (L za0 y) 2), .int .u8 (L (L za0 y) 3), .int .u8 (L (L za0 y) 4), .int .u8 (L (L za0 y) 5), .int .u8 (L (L za0 y) 6), .int .u8 (L (L za0 y) 7), .int .u8 (L (L za0 y) 8), .int .u8 (L (L za0 y) 9), .int .u8 (L (L za0 y) 10), .int .u8 (L (L za0 y) 11), .int .u8 (L (L za0 y) 12), .int .u8 (L (L za0 y) 13), .int .u8 (L (L za0 y) 14), .int .u8 (L (L za0 y) 15)]) = y := by subst hL; exact fun y => (zc3 y).2
 have hQo : ∀ y : Pr, (L zd2 (.agg [.int .u8 (L (L za0 y) 0), .int .u8 (L (L za0 y) 1), .int .u8 (L (L za0 y) 2), .int .u8 (L (L za0 y) 3), .int .u8 (L (L za0 y) 4), .int .u8 (L (L za0 y) 5), .int .u8 (L (L za0 y) 6), .int .u8 (L (L za0 y) 7), .int .u8 (L (L za0 y) 8), .int .u8 (L (L za0 y) 9), .int .u8 (L (L za0 y) 10), .int .u8 (L (L za0 y) 11), .int .u8 (L (L za0 y) 12), .int .u8 (L (L za0 y) 13), .int .u8 (L (L za0 y) 14), .int .u8 (L (L za0 y) 15)])) = True := by subst hL; exact fun y => eq_true (zc3 y).1
 have hQ1 : ∀ y : Pr, L zar (.agg [.int .u8 (L (L za1 [L (L za0 y) 0, L (L za0 y) 1, L (L za0 y) 2, L (L za0 y) 3, L (L za0 y) 4, L (L za0 y) 5, L (L za0 y) 6, L (L za0 y) 7, L (L za0 y) 8, L (L za0 y) 9, L (L za0 y) 10, L (L za0 y) 11, L (L za0 y) 12, L (L za0 y) 13, L (L za0 y) 14, L (L za0 y) 15]) 0), .int .u8 (L (L za1 [L (L za0 y) 0, L (L za0 y) 1, L (L za0 y) 2, L (L za0 y) 3, L (L za0 y) 4, L (L za0 y) 5, L (L za0 y) 6, L (L za0 y) 7, L (L za0 y) 8, L (L za0 y) 9, L (L za0 y) 10, L (L za0 y) 11, L (L za0 y) 12, L (L za0 y) 13, L (L za0 y) 14, L (L za0 y) 15]) 1), .int .u8 (L (L za1 [L (L za0 y) 0, L (L za0 y) 1, L (L za0 y) 2, L (L za0 y) 3, L (L za0 y) 4, L (L za0 y) 5, L (L za0 y) 6, L (L za0 y) 7, L (L za0 y) 8, L (L za0 y) 9, L (L za0 y) 10, L (L za0 y) 11, L (L za0 y) 12, L (L za0 y) 13, L (L za0 y) 14, L (L za0 y) 15]) 2), .int .u8 (L (L za1 [L (L za0 y) 0, L (L za0 y) 1, L (L za0 y) 2, L (L za0 y) 3, L (L za0 y) 4, L (L za0 y) 5, L (L za0 y) 6, L (L za0 y) 7, L (L za0 y) 8, L (L za0 y) 9, L (L za0 y) 10, L (L za0 y) 11, L (L za0 y) 12, L (L za0 y) 13, L (L za0 y) 14, L (L za0 y) 15]) 3), .int .u8 (L (L za1 [L (L za0 y) 0, L (L za0 y) 1, L (L za0 y) 2, L (L za0 y) 3, L (L za0 y) 4, L (L za0 y) 5, L (L za0 y) 6, L (L za0 y) 7, L (L za0 y) 8, L (L za0 y) 9, L (L za0 y) 10, L (L za0 y) 11, L (L za0 y) 12, L (L za0 y) 13, L (L za0 y) 14, L (L za0 y) 15]) 4), .int .u8 (L (L za1 [L (L za0 y) 0, L (L za0 y) 1, L (L za0 y) 2, L (L za0 y) 3, L (L za0 y) 4, L (L za0 y) 5, L (L za0 y) 6, L (L za0 y) 7, L (L za0 y) 8, L (L za0 y) 9, L (L za0 y) 10, L (L za0 y) 11, L (L za0 y) 12, L (L za0 y) 13, L (L za0 y) 14, L (L za0 y) 15]) 5), .int .u8 (L (L za1 [L (L za0 y) 0, L (L za0 y) 1, L (L za0 y) 2, L (L za0 y) 3, L (L za0 y) 4, L (L za0 y) 5, L (L za0 y) 6, L (L za0 y) 7, L (L za0 y) 8, L (L za0 y) 9, L (L za0 y) 10, L (L za0 y) 11, L (L za0 y) 12, L (L za0 y) 13, L (L za0 y) 14, L (L za0 y) 15]) 6), .int .u8 (L (L za1 [L (L za0 y) 0, L (L za0 y) 1, L (L za0 y) 2, L (L za0 y) 3, L (L za0 y) 4, L (L za0 y) 5, L (L za0 y) 6, L (L za0 y) 7, L (L za0 y) 8, L (L za0 y) 9, L (L za0 y) 10, L (L za0 y) 11, L (L za0 y) 12, L (L za0 y) 13, L (L za0 y) 14, L (L za0 y) 15]) 7), .int .u8 (L (L za1 [L (L za0 y) 0, L (L za0 y) 1, L (L za0 y) 2, L (L za0 y) 3, L (L za0 y) 4, L (L za0 y) 5, L (L za0 y) 6, L (L za0 y) 7, L (L za0 y) 8, L (L za0 y) 9, L (L za0 y) 10, L (L za0 y) 11, L (L za0 y) 12, L (L za0 y) 13, L (L za0 y) 14, L (L za0 y) 15]) 8), .int .u8 (L (L za1 [L (L za0 y) 0, L (L za0 y) 1, L (L za0 y) 2, L (L za0 y) 3, L (L za0 y) 4, L (L za0 y) 5, L (L za0 y) 6, L (L za0 y) 7, L (L za0 y) 8, L (L za0 y) 9, L (L za0 y) 10, L (L za0 y) 11, L (L za0 y) 12, L (L za0 y) 13, L (L za0 y) 14, L (L za0 y) 15]) 9), .int .u8 (L (L za1 [L (L za0 y) 0, L (L za0 y) 1, L (L za0 y) 2, L (L za0 y) 3, L (L za0 y) 4, L (L za0 y) 5, L (L za0 y) 6, L (L za0 y) 7, L (L za0 y) 8, L (L za0 y) 9, L (L za0 y) 10, L (L za0 y) 11, L (L za0 y) 12, L (L za0 y) 13, L (L za0 y) 14, L (L za0 y) 15]) 10), .int .u8 (L (L za1 [L (L za0 y) 0, L (L za0 y) 1, L (L za0 y) 2, L (L za0 y) 3, L (L za0 y) 4, L (L za0 y) 5, L (L za0 y) 6, L (L za0 y) 7, L (L za0 y) 8, L (L za0 y) 9, L (L za0 y) 10, L (L za0 y) 11, L (L za0 y) 12, L (L za0 y) 13, L (L za0 y) 14, L (L za0 y) 15]) 11), .int .u8 (L (L za1 [L (L za0 y) 0, L (L za0 y) 1, L (L za0 y) 2, L (L za0 y) 3, L (L za0 y) 4, L (L za0 y) 5, L (L za0 y) 6, L (L za0 y) 7, L (L za0 y) 8, L (L za0 y) 9, L (L za0 y) 10, L (L za0 y) 11, L (L za0 y) 12, L (L za0 y) 13, L (L za0 y) 14, L (L za0 y) 15]) 12), .int .u8 (L (L za1 [L (L za0 y) 0, L (L za0 y) 1, L (L za0 y) 2, L (L za0 y) 3, L (L za0 y) 4, L (L za0 y) 5, L (L za0 y) 6, L (L za0 y) 7, L (L za0 y) 8, L (L za0 y) 9, L (L za0 y) 10, L (L za0 y) 11, L (L za0 y) 12, L (L za0 y) 13, L (L za0 y) 14, L (L za0 y) 15]) 13), .int .u8 (L (L za1 [L (L za0 y) 0, L (L za0 y) 1, L (L za0 y) 2, L (L za0 y) 3, L (L za0 y) 4, L (L za0 y) 5, L (L za0 y) 6, L (L za0 y) 7, L (L za0 y) 8, L (L za0 y) 9, L (L za0 y) 10, L (L za0 y) 11, L (L za0 y) 12, L (L za0 y) 13, L (L za0 y) 14, L (L za0 y) 15]) 14), .int .u8 (L (L za1 [L (L za0 y) 0, L (L za0 y) 1, L (L za0 y) 2, L (L za0 y) 3, L (L za0 y) 4, L (L za0 y) 5, L (L za0 y) 6, L (L za0 y) 7, L (L za0 y) 8, L (L za0 y) 9, L (L za0 y) 10, L (L za0 y) 11, L (L za0 y) 12, L (L za0 y) 13, L (L za0 y) 14, L (L za0 y) 15]) 15)]) = y := by subst hL; exact fun y => (zc3 y).2
 have hQ1o : ∀ y : Pr, (L zd2 (.agg [.int .u8 (L (L za1 [L (L za0 y) 0, L (L za0 y) 1, L (L za0 y) 2, L (L za0 y) 3, L (L za0 y) 4, L (L za0 y) 5, L (L za0 y) 6, L (L za0 y) 7, L (L za0 y) 8, L (L za0 y) 9, L (L za0 y) 10, L (L za0 y) 11, L (L za0 y) 12, L (L za0 y) 13, L (L za0 y) 14, L (L za0 y) 15]) 0), .int .u8 (L (L za1 [L (L za0 y) 0, L (L za0 y) 1, L (L za0 y) 2, L (L za0 y) 3, L (L za0 y) 4, L (L za0 y) 5, L (L za0 y) 6, L (L za0 y) 7, L (L za0 y) 8, L (L za0 y) 9, L (L za0 y) 10, L (L za0 y) 11, L (L za0 y) 12, L (L za0 y) 13, L (L za0 y) 14, L (L za0 y) 15]) 1), .int .u8 (L (L za1 [L (L za0 y) 0, L (L za0 y) 1, L (L za0 y) 2, L (L za0 y) 3, L (L za0 y) 4, L (L za0 y) 5, L (L za0 y) 6, L (L za0 y) 7, L (L za0 y) 8, L (L za0 y) 9, L (L za0 y) 10, L (L za0 y) 11, L (L za0 y) 12, L (L za0 y) 13, L (L za0 y) 14, L (L za0 y) 15]) 2), .int .u8 (L (L za1 [L (L za0 y) 0, L (L za0 y) 1, L (L za0 y) 2, L (L za0 y) 3, L (L za0 y) 4, L (L za0 y) 5, L (L za0 y) 6, L (L za0 y) 7, L (L za0 y) 8, L (L za0 y) 9, L (L za0 y) 10, L (L za0 y) 11, L (L za0 y) 12, L (L za0 y) 13, L (L za0 y) 14, L (L za0 y) 15]) 3), .int .u8 (L (L za1 [L (L za0 y) 0, L (L za0 y) 1, L (L za0 y) 2, L (L za0 y) 3, L (L za0 y) 4, L (L za0 y) 5, L (L za0 y) 6, L (L za0 y) 7, L (L za0 y) 8, L (L za0 y) 9, L (L za0 y) 10, L (L za0 y) 11, L (L za0 y) 12, L (L za0 y) 13, L (L za0 y) 14, L (L za0 y) 15]) 4), .int .u8 (L (L za1 [L (L za0 y) 0, L (L za0 y) 1, L (L za0 y) 2, L (L za0 y) 3, L (L za0 y) 4, L (L za0 y) 5, L (L za0 y) 6, L (L za0 y) 7, L (L za0 y) 8, L (L za0 y) 9, L (L za0 y) 10, L (L za0 y) 11, L (L za0 y) 12, L (L za0 y) 13, L (L za0 y) 14, L (L za0 y) 15]) 5), .int .u8 (L (L za1 [L (L za0 y) 0, L (L za0 y) 1, L (L za0 y) 2, L (L za0 y) 3, L (L za0 y) 4, L (L za0 y) 5, L (L za0 y) 6, L (L za0 y) 7, L (L za0 y) 8, L (L za0 y) 9, L (L za0 y) 10, L (L za0 y) 11, L (L za0 y) 12, L (L za0 y) 13, L (L za0 y) 14, L (L za0 y) 15]) 6), .int .u8 (L (L za1 [L (L za0 y) 0, L (L za0 y) 1, L (L za0 y) 2, L (L za0 y) 3, L (L za0 y) 4, L (L za0 y) 5, L (L za0 y) 6, L (L za0 y) 7, L (L za0 y) 8, L (L za0 y) 9, L (L za0 y) 10, L (L za0 y) 11, L (L za0 y) 12, L (L za0 y) 13, L (L za0 y) 14, L (L za0 y) 15]) 7), .int .u8 (L (L za1 [L (L za0 y) 0, L (L za0 y) 1, L (L za0 y) 2, L (L za0 y) 3, L (L za0 y) 4, L (L za0 y) 5, L (L za0 y) 6, L (L za0 y) 7, L (L za0 y) 8, L (L za0 y) 9, L (L za0 y) 10, L (L za0 y) 11, L (L za0 y) 12, L (L za0 y) 13, L (L za0 y) 14, L (L za0 y) 15]) 8), .int .u8 (L (L za1 [L (L za0 y) 0, L (L za0 y) 1, L (L za0 y) 2, L (L za0 y) 3, L (L za0 y) 4, L (L za0 y) 5, L (L za0 y) 6, L (L za0 y) 7, L (L za0 y) 8, L (L za0 y) 9, L (L za0 y) 10, L (L za0 y) 11, L (L za0 y) 12, L (L za0 y) 13, L (L za0 y) 14, L (L za0 y) 15]) 9), .int .u8 (L (L za1 [L (L za0 y) 0, L (L za0 y) 1, L (L za0 y) 2, L (L za0 y) 3, L (L za0 y) 4, L (L za0 y) 5, L (L za0 y) 6, L (L za0 y) 7, L (L za0 y) 8, L (L za0 y) 9, L (L za0 y) 10, L (L za0 y) 11, L (L za0 y) 12, L (L za0 y) 13, L (L za0 y) 14, L (L za0 y) 15]) 10), .int .u8 (L (L za1 [L (L za0 y) 0, L (L za0 y) 1, L (L za0 y) 2, L (L za0 y) 3, L (L za0 y) 4, L (L za0 y) 5, L (L za0 y) 6, L (L za0 y) 7, L (L za0 y) 8, L (L za0 y) 9, L (L za0 y) 10, L (L za0 y) 11, L (L za0 y) 12, L (L za0 y) 13, L (L za0 y) 14, L (L za0 y) 15]) 11), .int .u8 (L (L za1 [L (L za0 y) 0, L (L za0 y) 1, L (L za0 y) 2, L (L za0 y) 3, L (L za0 y) 4, L (L za0 y) 5, L (L za0 y) 6, L (L za0 y) 7, L (L za0 y) 8, L (L za0 y) 9, L (L za0 y) 10, L (L za0 y) 11, L (L za0 y) 12, L (L za0 y) 13, L (L za0 y) 14, L (L za0 y) 15]) 12), .int .u8 (L (L za1 [L (L za0 y) 0, L (L za0 y) 1, L (L za0 y) 2, L (L za0 y) 3, L (L za0 y) 4, L (L za0 y) 5, L (L za0 y) 6, L (L za0 y) 7, L (L za0 y) 8, L (L za0 y) 9, L (L za0 y) 10, L (L za0 y) 11, L (L za0 y) 12, L (L za0 y) 13, L (L za0 y) 14, L (L za0 y) 15]) 13), .int .u8 (L (L za1 [L (L za0 y) 0, L (L za0 y) 1, L (L za0 y) 2, L (L za0 y) 3, L (L za0 y) 4, L (L za0 y) 5, L (L za0 y) 6, L (L za0 y) 7, L (L za0 y) 8, L (L za0 y) 9, L (L za0 y) 10, L (L za0 y) 11, L (L za0 y) 12, L (L za0 y) 13, L (L za0 y) 14, L (L za0 y) 15]) 14), .int .u8 (L (L za1 [L (L za0 y) 0, L (L za0 y) 1, L (L za0 y) 2, L (L za0 y) 3, L (L za0 y) 4, L (L za0 y) 5, L (L za0 y) 6, L (L za0 y) 7, L (L za0 y) 8, L (L za0 y) 9, L (L za0 y) 10, L (L za0 y) 11, L (L za0 y) 12, L (L za0 y) 13, L (L za0 y) 14, L (L za0 y) 15]) 15)])) = True := by subst hL; exact fun y => eq_true (zc3 y).1
 have hG : ∀ y : List Le, L zak (.lst 18 (L zfl y) (fun i => leC L (L (L zao y) i))) = y := by subst hL; exact fun y => zoh y
 have hGo : ∀ y : List Le, (L zfa (.lst 18 (L zfl y) (fun i => leC L (L (L zao y) i)))) = True := by subst hL; exact fun y => eq_true (zos y)
 (cbv; try simp only [syT, true_and, and_true])
 simp only [hE, hEo, hF, hFo, hEta, hMp, hQ1, hQ1o, hQ0, hQo, hG, hGo, true_and]
 subst hL; subst hQ
 exact ⟨⟨hz, hok, hpo⟩, by simp [zjd, zdo, zhh, zhi, zm6, std]⟩
theorem zg3 : zcc Tryz.prog (yaj 28 33 18 std) := by
 intro raw ob T h hp
 unfold yaj at h
 simp only at h
 split at h
 rotate_left
 · cases h
 rename_i s n get
 cases hs : zal s 18 with
 | false => rw [hs] at h; cases h
 | true =>
 rw [hs] at h
 cases h
 have hp : n <= 1000000 := hp
 refine ym6 (fun h0 => ?_) (fun h0 => ?_) (fun h0 => ?_)
 · refine zaj (T := tt) (S := noS) (lo := noA) (lb := noA) 5 (fn := Tryz.f28) (xs := fun L => [.lst 18 n get]) (rts := fun _ => [.sl 900 18 0 n]) (O := fun L => []) (O1 := fun L => [(900, .row 33 18 n get)]) rfl rfl (by kernel_rfl) (by kernel_rfl) (by kernel_rfl) zae (zdx _) (by kernel_rfl) ?_
   intro L P' Q' hL hP hQ
   (cbv; try simp only [syT, true_and, and_true])
   (subst hL; subst hQ; simp only [L2, L3, std] at *; try simp only [syS, reduceCtorEq, Int.reduceToNat, Int.reduceAdd, Int.reduceSub] at *)
   simp only [zbl] at *
   exact ⟨h0, Nat.le_trans (Nat.mul_le_mul_right _ (show 0 + n <= 1000000 by omega)) (by decide), by omega⟩
 · refine zaj (T := tt) (S := noS) (lo := noA) (lb := noA) 5 (fn := Tryz.f28) (xs := fun L => [.nils]) (rts := fun _ => [.sl 900 18 0 n]) (O := fun L => []) (O1 := fun L => [(900, .row 33 18 n get)]) rfl rfl (by kernel_rfl) (by kernel_rfl) (by kernel_rfl) zae (zdx _) (by kernel_rfl) ?_
   intro L P' Q' hL hP hQ
   (cbv; try simp only [syT, true_and, and_true])
   (subst hL; subst hQ; simp only [L2, L3, std] at *; try simp only [syS, reduceCtorEq, Int.reduceToNat, Int.reduceAdd, Int.reduceSub] at *)
   exact ⟨by omega, by omega⟩
 · refine zaj (T := tt) (S := noS) (lo := noA) (lb := noA) 5 (fn := Tryz.f28) (xs := fun L => [.emp]) (rts := fun _ => [.sl 900 18 0 n]) (O := fun L => []) (O1 := fun L => [(900, .row 33 18 n get)]) rfl rfl (by kernel_rfl) (by kernel_rfl) (by kernel_rfl) zae (zdx _) (by kernel_rfl) ?_
   intro L P' Q' hL hP hQ
   (cbv; try simp only [syT, true_and, and_true])
   (subst hL; subst hQ; simp only [L2, L3, std] at *; try simp only [syS, reduceCtorEq, Int.reduceToNat, Int.reduceAdd, Int.reduceSub] at *)
   exact ⟨⟨by omega, by omega⟩, ⟨by omega, fun i j hi hj => by omega⟩, by omega⟩
theorem yla : (Tryz.prog.info? 33).map (·.size) = some 18 := by kernel_rfl
theorem zqo : zcc Tryz.prog (zy8 63) := by
 have h1 : Tryz.prog.funcs[63]? = some Tryz.f63 := rfl
 have h2 : (Tryz.f63.name == "runtime.NumGoroutine") = false := by kernel_rfl
 have h3 : Tryz.f63.body.isNone = true := by kernel_rfl
 have h4 : Extern.findNext Tryz.f63 = none := by kernel_rfl
 have h5 : Extern.find Tryz.f63 = some (Extern.SlicesOverlaps.overlaps #[23, 23] #[4]) := by kernel_rfl
 have h6 : ∀ w, (Go.sizeOf 33).run Tryz.prog w = .ok 18 w := by
   intro w
   obtain ⟨i, hi, hs⟩ := Option.map_eq_some_iff.1 yla
   simp [Go.sizeOf, typeInfo, program, Sem.run, hi, hs]
 exact ycx (P := Tryz.prog) (f := 63) (fn := Tryz.f63) (tS := 23) (tR := 4) (e := 33) (esz := 18) h1 h2 h3 h4 h5 Tryz.underlying23 h6
theorem ye5 {n n1 k : Nat} {i : Int} {get gv : Nat -> Nat -> AV} (hn : n <= 1000000) (hi : i = k) (h1 : k <= n) (hn1 : n1 = n + 1) : zan Tryz.prog 46 [.sl 500000 18 0 n, .int .i64 i, .sl 500001 18 0 1] [(500000, .row 33 18 n get), (500001, .row 33 18 1 gv)] (.sl 900 18 0 n1) [(900, .row 33 18 n1 (yg5 get gv k))] := by
 refine zoy (T := tt) (S := fun L => zb0 [] [zy8 63]) (lo := noA) (lb := noA) 5 (fn := Tryz.f46) (xs := fun L => [.sl 500000 18 0 n, .int .i64 i, .sl 500001 18 0 1]) (rts := fun _ => [.sl 900 18 0 n1]) (O := fun L => [(500000, .row 33 18 n get), (500001, .row 33 18 1 gv)]) (O1 := fun L => [(900, .row 33 18 n1 (yg5 get gv k))]) rfl rfl (by kernel_rfl) (by kernel_rfl) (by kernel_rfl) zae (za8 trivial ⟨zqo, trivial⟩) (by kernel_rfl) ?_
 intro L P' Q' hL hP hQ
 (cbv; try simp only [syT, true_and, and_true])
 intro cap hcap
 cbv at hcap
 (cbv; try simp only [syT, true_and, and_true])
 subst hL; subst hQ
 have hcap : n <= cap := hcap
 have hs1 : ∀ (x : Nat), std Int.toNat ((x : Nat) : Int) = x := fun x => rfl
 have hi2 : i = ((k : Nat) : Int) := hi
 clear hi
 subst hi2; subst hn1
 have w1 : zce .i64 (zab n) (zab 1) = zab (n + 1) := by simp only [zce, zdj, zaw]; omega
 have w2 : zrx .i64 (zab (n + 1)) (k : Int) = zab (n + 1 - k) := by simp only [zrx, zdj, zaw]; omega
 have w3 : zce .i64 (k : Int) (zab 1) = zab (k + 1) := by simp only [zce, zdj, zaw]; omega
 simp only [L2, L3, std, w1, w2, w3] at *
 simp only [sySet, zzk, yms, ymt, yfu, yfv, yfs, yft, yco, ygj, yfa, Int.toNat_natCast, zaw, zwt, zwv, yg5, yh9 18 (by decide), ym4] at *
 repeat' first | refine And.intro ?_ ?_ | (intro _)
 all_goals try omega
 all_goals try contradiction
 all_goals try (rename_i q j hq hj; repeat' split)
 all_goals first | rfl | (exfalso; omega) | exact congrFun (congrArg _ (by omega)) _ | skip
theorem zvb : zcc Tryz.prog (ypt 46 33 18 std) := by
 intro raw ob T h hp
 unfold ypt at h
 simp only at h
 split at h
 rotate_left
 · cases h
 rename_i a s n i b s'
 split at h
 rotate_left
 · cases h
 cases h
 obtain ⟨p1, p2, p3⟩ : ye6 n i := hp
 exact ye5 p1 (k := i.toNat) (by omega) (by omega) rfl
theorem yep {n n1 k : Nat} {i j : Int} {get : Nat -> Nat -> AV} (hn : n <= 1000000) (hi : i = k) (hj : j = i + 1) (h1 : k < n) (hn1 : n1 = n - 1) : zan Tryz.prog 27 [.sl 500000 18 0 n, .int .i64 i, .int .i64 j] [(500000, .row 33 18 n get)] (.sl 900 18 0 n1) [(900, .row 33 18 n1 (zq8 get k))] := by
 refine zoy (T := tt) (S := fun L => zb0 [] []) (lo := noA) (lb := noA) 5 (fn := Tryz.f27) (xs := fun L => [.sl 500000 18 0 n, .int .i64 i, .int .i64 j]) (rts := fun _ => [.sl 900 18 0 n1]) (O := fun L => [(500000, .row 33 18 n get)]) (O1 := fun L => [(900, .row 33 18 n1 (zq8 get k))]) rfl rfl (by kernel_rfl) (by kernel_rfl) (by kernel_rfl) zae (za8 trivial trivial) (by kernel_rfl) ?_
 intro L P' Q' hL hP hQ
 (cbv; try simp only [syT, true_and, and_true])
 intro cap hcap
 cbv at hcap
 (cbv; try simp only [syT, true_and, and_true])
 subst hL; subst hQ
 have hcap : n <= cap := hcap
 have hi2 : i = ((k : Nat) : Int) := hi
 clear hi
 subst hi2; subst hj; subst hn1
 have e1 : ((k : Int) + 1).toNat = k + 1 := by omega
 simp only [L2, L3, std] at *
 simp only [sySet, zzk, yms, ymt, yfu, yfv, yfs, yft, ygj, yfa, Int.toNat_natCast, e1, zaw, zwt, zwv, zq8, Bool.true_and] at *
 repeat' first | refine And.intro ?_ ?_ | (intro _)
 all_goals try omega
 all_goals try contradiction
 all_goals try (rename_i q j hq hj; repeat' split)
 all_goals first | rfl | (exfalso; omega) | exact congrFun (congrArg _ (by omega)) _ | skip
theorem zmb : zcc Tryz.prog (yq3 27 33 18 std) := by
 intro raw ob T h hp
 unfold yq3 at h
 simp only at h
 split at h
 rotate_left
 · cases h
 rename_i a s n i j
 split at h
 rotate_left
 · cases h
 cases h
 obtain ⟨p1, p2, p3, p4⟩ : yeq n i j := hp
 exact yep p1 (k := i.toNat) (by omega) p4 (by omega) rfl
def yq8 (L : za9) : zfp := yaj 28 33 18 L
def inLe (L : za9) : zfp := ypt 46 33 18 L
def dlLe (L : za9) : zfp := yq3 27 33 18 L
theorem yaa {l : List Le} {k i : Nat} (hk : k < l.length) (j : Nat) : zq8 (fun i => leC std (zao l i)) k i j = leC std (zao (zcu k l) i) j := by
 have e : zao (zcu k l) i = if i < k then zao l i else zao l (i + 1) := by
   unfold zao zyg zcu
   simp only [List.getD_eq_getElem?_getD]
   by_cases h : i < k
   · rw [if_pos h, List.getElem?_append_left (by rw [List.length_take]; omega), List.getElem?_take, if_pos h]
   · rw [if_neg h, List.getElem?_append_right (by rw [List.length_take]; omega), List.length_take, List.getElem?_drop, show k + 1 + (i - min k l.length) = i + 1 by omega]
 rw [e]
 unfold zq8
 split <;> rfl
theorem zzi {l : List Le} {e : Le} {g : Nat -> Nat -> AV} (hg : ∀ j, j < 18 -> g 0 j = leC std e j) {k i : Nat} (hk : k <= l.length) {j : Nat} (hj : j < 18) : yg5 (fun i => leC std (zao l i)) g k i j = leC std (zao (zw0 k e l) i) j := by
 have ee : zao (zw0 k e l) i = if i < k then zao l i else if i = k then e else zao l (i - 1) := by
   unfold zao zyg zw0
   simp only [List.getD_eq_getElem?_getD]
   by_cases h : i < k
   · rw [if_pos h, List.getElem?_append_left (by rw [List.length_take]; omega), List.getElem?_take, if_pos h]
   · rw [if_neg h, List.getElem?_append_right (by rw [List.length_take]; omega), List.length_take, Nat.min_eq_left hk]
     by_cases h2 : i = k
     · rw [if_pos h2, h2, Nat.sub_self]; rfl
     · rw [if_neg h2]
       obtain ⟨r, hr⟩ : ∃ r, i - k = r + 1 := ⟨i - k - 1, by omega⟩
       rw [hr, List.getElem?_cons_succ, List.getElem?_drop, show k + r = i - 1 by omega]
 rw [ee]
 unfold yg5
 split
 · rfl
 · split
   · exact hg j hj
   · rfl
theorem yg0 (e : Le) {j : Nat} (hj : j < 18) : zc0 AV.dead [.int .u8 (za0 e.p 0), .int .u8 (za0 e.p 1), .int .u8 (za0 e.p 2), .int .u8 (za0 e.p 3), .int .u8 (za0 e.p 4), .int .u8 (za0 e.p 5), .int .u8 (za0 e.p 6), .int .u8 (za0 e.p 7), .int .u8 (za0 e.p 8), .int .u8 (za0 e.p 9), .int .u8 (za0 e.p 10), .int .u8 (za0 e.p 11), .int .u8 (za0 e.p 12), .int .u8 (za0 e.p 13), .int .u8 (za0 e.p 14), .int .u8 (za0 e.p 15), .int .i64 e.d, .bool e.h] j = leC std e j := by
 match j, hj with
 | 0, _ => rfl
 | 1, _ => rfl
 | 2, _ => rfl
 | 3, _ => rfl
 | 4, _ => rfl
 | 5, _ => rfl
 | 6, _ => rfl
 | 7, _ => rfl
 | 8, _ => rfl
 | 9, _ => rfl
 | 10, _ => rfl
 | 11, _ => rfl
 | 12, _ => rfl
 | 13, _ => rfl
 | 14, _ => rfl
 | 15, _ => rfl
 | 16, _ => rfl
 | 17, _ => rfl
 | j + 18, h => omega
theorem zpl (l : List Le) (N : Nat) (G : Nat -> Nat -> AV) (h1 : N = l.length) (h2 : ∀ i j, i < N -> j < 18 -> G i j = leC std (zao l i) j) : zfi (.agg [zdb std l]) (.agg [.lst 18 N G]) := by
 show zbg (.agg [.lst 18 (zfl l) fun i => leC std (zao l i)]) (.agg [.lst 18 N G])
 rw [zie, zdp]
 exact ⟨⟨h1, fun i j hi hj => h2 i j (by rw [h1]; exact hi) hj⟩, trivial⟩
theorem yga (x y : Le) (h : y = x) : zfi (leA std x) (leA std y) := by
 subst h
 show zbg (leA std y) (leA std y)
 unfold leA
 simp only [zew, zif, zdp, and_self]
theorem yp4 {l : List Le} {e : Le} (hl : zde l) (he : zix e) (hh : zb6 e.p l = true) (hk : zd5 e = true) : zbu l e = zw0 (zc6 (prN e.p) l) e (zcu (zc6 (prN e.p) l) l) /\ zc6 (prN e.p) l < l.length := by
 obtain ⟨h, _⟩ := (zgm hl he.1).1 hh
 refine ⟨?_, h⟩
 unfold zbu zdl
 rw [if_pos hk, if_pos hh]; rfl
theorem yp3 {l : List Le} {e : Le} (hl : zde l) (he : zix e) (hh : zb6 e.p l = true) (hk : zd5 e = false) : zbu l e = zcu (zc6 (prN e.p) l) l /\ zc6 (prN e.p) l < l.length := by
 obtain ⟨h, _⟩ := (zgm hl he.1).1 hh
 refine ⟨?_, h⟩
 unfold zbu zdl
 rw [if_neg (by rw [hk]; decide), if_pos hh]; rfl
theorem yp2 {l : List Le} {e : Le} (hh : zb6 e.p l = false) (hk : zd5 e = true) : zbu l e = zw0 (zc6 (prN e.p) l) e l := by
 unfold zbu zdl
 rw [if_pos hk, if_neg (by rw [hh]; decide)]; rfl
theorem ylo {l : List Le} {e : Le} (hh : zb6 e.p l = false) (hk : zd5 e = false) : zbu l e = l := by
 unfold zbu zdl
 rw [if_neg (by rw [hk]; decide), if_neg (by rw [hh]; decide)]
theorem zzb {e : Le} (h : ilt 0 e.d = true) : zd5 e = true := by
 rw [ze8] at h
 simp [zd5, h]
theorem zza {e : Le} (h : e.h = true) : zd5 e = true := by simp [zd5, h]
theorem ztg {e : Le} (h : ilt 0 e.d = false) (h2 : e.h = false) : zd5 e = false := by
 rw [zia] at h
 simp [zd5, h2]; omega
theorem yf7 {l : List Le} {e : Le} (hl : zde l) (he : zix e) (hh : zb6 e.p l = true) (hk : zd5 e = true) : zfi (.agg [zdb std (zbu l e)]) (.agg [.lst 18 (zfr l.length + 1) fun i => yg5 (zq8 (fun i => leC std (zao l i)) (ze0 l e.p).toNat) (fun i j => zc0 AV.dead [.int .u8 (za0 e.p 0), .int .u8 (za0 e.p 1), .int .u8 (za0 e.p 2), .int .u8 (za0 e.p 3), .int .u8 (za0 e.p 4), .int .u8 (za0 e.p 5), .int .u8 (za0 e.p 6), .int .u8 (za0 e.p 7), .int .u8 (za0 e.p 8), .int .u8 (za0 e.p 9), .int .u8 (za0 e.p 10), .int .u8 (za0 e.p 11), .int .u8 (za0 e.p 12), .int .u8 (za0 e.p 13), .int .u8 (za0 e.p 14), .int .u8 (za0 e.p 15), .int .i64 e.d, .bool e.h] (i * 18 + j)) (ze0 l e.p).toNat (Nat.add 0 i)]) := by
 obtain ⟨e1, e2⟩ := yp4 hl he hh hk
 have hc := ze1 e2
 have hi := zj9 (i := zc6 (prN e.p) l) (e := e) (l := zcu (zc6 (prN e.p) l) l) (by omega)
 refine zpl _ _ _ (by rw [e1, hi]; unfold zfr; omega) (fun i j hi hj => ?_)
 rw [e1, show Nat.add 0 i = i from Nat.zero_add i, show (ze0 l e.p).toNat = zc6 (prN e.p) l from Int.toNat_natCast _]
 rw [show zq8 (fun i => leC std (zao l i)) (zc6 (prN e.p) l) = fun i => leC std (zao (zcu (zc6 (prN e.p) l) l) i) from funext fun i => funext fun j => yaa e2 j]
 exact zzi (fun j hj => by rw [Nat.zero_mul, Nat.zero_add]; exact yg0 e hj) (by omega) hj
theorem ykx {l : List Le} {e : Le} (hl : zde l) (he : zix e) (hh : zb6 e.p l = true) (hk : zd5 e = false) : zfi (.agg [zdb std (zbu l e)]) (.agg [.lst 18 (zfr l.length) fun i => zq8 (fun i => leC std (zao l i)) (ze0 l e.p).toNat (Nat.add 0 i)]) := by
 obtain ⟨e1, e2⟩ := yp3 hl he hh hk
 have hc := ze1 e2
 refine zpl _ _ _ (by rw [e1]; unfold zfr; omega) (fun i j hi hj => ?_)
 rw [e1, show Nat.add 0 i = i from Nat.zero_add i, show (ze0 l e.p).toNat = zc6 (prN e.p) l from Int.toNat_natCast _]
 exact yaa e2 j
theorem yf6 {l : List Le} {e : Le} (hh : zb6 e.p l = false) (hk : zd5 e = true) : zfi (.agg [zdb std (zbu l e)]) (.agg [.lst 18 (l.length + 1) fun i => yg5 (fun i => leC std (zao l i)) (fun i j => zc0 AV.dead [.int .u8 (za0 e.p 0), .int .u8 (za0 e.p 1), .int .u8 (za0 e.p 2), .int .u8 (za0 e.p 3), .int .u8 (za0 e.p 4), .int .u8 (za0 e.p 5), .int .u8 (za0 e.p 6), .int .u8 (za0 e.p 7), .int .u8 (za0 e.p 8), .int .u8 (za0 e.p 9), .int .u8 (za0 e.p 10), .int .u8 (za0 e.p 11), .int .u8 (za0 e.p 12), .int .u8 (za0 e.p 13), .int .u8 (za0 e.p 14), .int .u8 (za0 e.p 15), .int .i64 e.d, .bool e.h] (i * 18 + j)) (ze0 l e.p).toNat (Nat.add 0 i)]) := by
 have e1 := yp2 hh hk
 have hlb := zi8 (prN e.p) l
 refine zpl _ _ _ (by rw [e1, zj9 hlb]) (fun i j hi hj => ?_)
 rw [e1, show Nat.add 0 i = i from Nat.zero_add i, show (ze0 l e.p).toNat = zc6 (prN e.p) l from Int.toNat_natCast _]
 exact zzi (fun j hj => by rw [Nat.zero_mul, Nat.zero_add]; exact yg0 e hj) hlb hj
theorem ykw {l : List Le} {e : Le} (hh : zb6 e.p l = false) (hk : zd5 e = false) : zfi (.agg [zdb std (zbu l e)]) (.agg [.lst 18 l.length fun i => leC std (zao l (Nat.add 0 i))]) := by
 refine zpl _ _ _ (by rw [ylo hh hk]) (fun i j hi hj => ?_)
 rw [ylo hh hk, show Nat.add 0 i = i from Nat.zero_add i]
def yi8 (L : za9) : zcw := (29, fun xs => match xs with
 | [.agg [x], q] => some (L zfa x /\ L zei q /\ L zdz (L zak x) /\ L zde (L zak x) /\ L zix (L zc4 q), .agg [zdb L (L2 L zbu (L zak x) (L zc4 q))])
 | _ => none)
theorem ydi : zdd Tryz.prog (yi8 std) := by
 intro xs p r h hp
 dsimp only [yi8] at h |-
 split at h <;> cases h
 try simp only [L2, L3, std] at hp |-
 rename_i x q
 obtain ⟨ho, ho2, hz, hok, hpo⟩ := hp
 refine ybg zed ho (zvt zed ho2 ?_)
 rw [zz4]
 have hz : zdz (zak x) := hz
 have hok : zde (zak x) := hok
 have hpo : zix (zc4 q) := hpo
 show zac _ _ (.agg [zv6 std leV (zak x)] :: leA std (zc4 q) :: _) (.agg [zdb std (zbu (zak x) (zc4 q))])
 generalize zak x = l at hz hok |-
 generalize zc4 q = e at hpo |-
 refine zau (T := tt) (S := fun L => zb0 [zy5 L] [yq8 L, inLe L, dlLe L]) (lo := noA) (lb := noA) 5 (fn := Tryz.f29) (xs := fun L => [.agg [zdb L l], leA L e]) rfl rfl (by kernel_rfl) (by kernel_rfl) rfl zae (za8 ⟨zmw, trivial⟩ ⟨zg3, zvb, zmb, trivial⟩) (by kernel_rfl) ?_
 intro L P' Q' hL hP hQ
 have hE : ∀ (y : Pr) (d : Int) (h : Bool), L zc4 (.agg [.int .u8 (L (L za0 y) 0), .int .u8 (L (L za0 y) 1), .int .u8 (L (L za0 y) 2), .int .u8 (L (L za0 y) 3), .int .u8 (L (L za0 y) 4), .int .u8 (L (L za0 y) 5), .int .u8 (L (L za0 y) 6), .int .u8 (L (L za0 y) 7), .int .u8 (L (L za0 y) 8), .int .u8 (L (L za0 y) 9), .int .u8 (L (L za0 y) 10), .int .u8 (L (L za0 y) 11), .int .u8 (L (L za0 y) 12), .int .u8 (L (L za0 y) 13), .int .u8 (L (L za0 y) 14), .int .u8 (L (L za0 y) 15), .int .i64 d, .bool h]) = L (L (L Le.mk y) d) h := by subst hL; exact fun y d h => (zc9 ⟨y, d, h⟩).2
 have hEo : ∀ (y : Pr) (d : Int) (h : Bool), (L zei (.agg [.int .u8 (L (L za0 y) 0), .int .u8 (L (L za0 y) 1), .int .u8 (L (L za0 y) 2), .int .u8 (L (L za0 y) 3), .int .u8 (L (L za0 y) 4), .int .u8 (L (L za0 y) 5), .int .u8 (L (L za0 y) 6), .int .u8 (L (L za0 y) 7), .int .u8 (L (L za0 y) 8), .int .u8 (L (L za0 y) 9), .int .u8 (L (L za0 y) 10), .int .u8 (L (L za0 y) 11), .int .u8 (L (L za0 y) 12), .int .u8 (L (L za0 y) 13), .int .u8 (L (L za0 y) 14), .int .u8 (L (L za0 y) 15), .int .i64 d, .bool h])) = True := by subst hL; exact fun y d h => eq_true (zc9 ⟨y, d, h⟩).1
 have hF : ∀ (y : Pr) (d : Int) (h : Bool), L zc4 (.agg [.int .u8 (L (L za1 [L (L za0 y) 0, L (L za0 y) 1, L (L za0 y) 2, L (L za0 y) 3, L (L za0 y) 4, L (L za0 y) 5, L (L za0 y) 6, L (L za0 y) 7, L (L za0 y) 8, L (L za0 y) 9, L (L za0 y) 10, L (L za0 y) 11, L (L za0 y) 12, L (L za0 y) 13, L (L za0 y) 14, L (L za0 y) 15]) 0), .int .u8 (L (L za1 [L (L za0 y) 0, L (L za0 y) 1, L (L za0 y) 2, L (L za0 y) 3, L (L za0 y) 4, L (L za0 y) 5, L (L za0 y) 6, L (L za0 y) 7, L (L za0 y) 8, L (L za0 y) 9, L (L za0 y) 10, L (L za0 y) 11, L (L za0 y) 12, L (L za0 y) 13, L (L za0 y) 14, L (L za0 y) 15]) 1), .int .u8 (L (L za1 [L (L za0 y) 0, L (L za0 y) 1, L (L za0 y) 2, L (L za0 y) 3, L (L za0 y) 4, L (L za0 y) 5, L (L za0 y) 6, L (L za0 y) 7, L (L za0 y) 8, L (L za0 y) 9, L (L za0 y) 10, L (L za0 y) 11, L (L za0 y) 12, L (L za0 y) 13, L (L za0 y) 14, L (L za0 y) 15]) 2), .int .u8 (L (L za1 [L (L za0 y) 0, L (L za0 y) 1, L (L za0 y) 2, L (L za0 y) 3, L (L za0 y) 4, L (L za0 y) 5, L (L za0 y) 6, L (L za0 y) 7, L (L za0 y) 8, L (L za0 y) 9, L (L za0 y) 10, L (L za0 y) 11, L (L za0 y) 12, L (L za0 y) 13, L (L za0 y) 14, L (L za0 y) 15]) 3), .int .u8 (L (L za1 [L (L za0 y) 0, L (L za0 y) 1, L (L za0 y) 2, L (L za0 y) 3, L (L za0 y) 4, L (L za0 y) 5, L (L za0 y) 6, L (L za0 y) 7, L (L za0 y) 8, L (L za0 y) 9, L (L za0 y) 10, L (L za0 y) 11, L (L za0 y) 12, L (L za0 y) 13, L (L za0 y) 14, L (L za0 y) 15]) 4), .int .u8 (L (L za1 [L (L za0 y) 0, L (L za0 y) 1, L (L za0 y) 2, L (L za0 y) 3, L (L za0 y) 4, L (L za0 y) 5, L (L za0 y) 6, L (L za0 y) 7, L (L za0 y) 8, L (L za0 y) 9, L (L za0 y) 10, L (L za0 y) 11, L (L za0 y) 12, L (L za0 y) 13, L (L za0 y) 14, L (L za0 y) 15]) 5), .int .u8 (L (L za1 [L (L za0 y) 0, L (L za0 y) 1, L (L za0 y) 2, L (L za0 y) 3, L (L za0 y) 4, L (L za0 y) 5, L (L za0 y) 6, L (L za0 y) 7, L (L za0 y) 8, L (L za0 y) 9, L (L za0 y) 10, L (L za0 y) 11, L (L za0 y) 12, L (L za0 y) 13, L (L za0 y) 14, L (L za0 y) 15]) 6), .int .u8 (L (L za1 [L (L za0 y) 0, L (L za0 y) 1, L (L za0 y) 2, L (L za0 y) 3, L (L za0 y) 4, L (L za0 y) 5, L (L za0 y) 6, L (L za0 y) 7, L (L za0 y) 8, L (L za0 y) 9, L (L za0 y) 10, L (L za0 y) 11, L (L za0 y) 12, L (L za0 y) 13, L (L za0 y) 14, L (L za0 y) 15]) 7), .int .u8 (L (L za1 [L (L za0 y) 0, L (L za0 y) 1, L (L za0 y) 2, L (L za0 y) 3, L (L za0 y) 4, L (L za0 y) 5, L (L za0 y) 6, L (L za0 y) 7, L (L za0 y) 8, L (L za0 y) 9, L (L za0 y) 10, L (L za0 y) 11, L (L za0 y) 12, L (L za0 y) 13, L (L za0 y) 14, L (L za0 y) 15]) 8), .int .u8 (L (L za1 [L (L za0 y) 0, L (L za0 y) 1, L (L za0 y) 2, L (L za0 y) 3, L (L za0 y) 4, L (L za0 y) 5, L (L za0 y) 6, L (L za0 y) 7, L (L za0 y) 8, L (L za0 y) 9, L (L za0 y) 10, L (L za0 y) 11, L (L za0 y) 12, L (L za0 y) 13, L (L za0 y) 14, L (L za0 y) 15]) 9), .int .u8 (L (L za1 [L (L za0 y) 0, L (L za0 y) 1, L (L za0 y) 2, L (L za0 y) 3, L (L za0 y) 4, L (L za0 y) 5, L (L za0 y) 6, L (L za0 y) 7, L (L za0 y) 8, L (L za0 y) 9, L (L za0 y) 10, L (L za0 y) 11, L (L za0 y) 12, L (L za0 y) 13, L (L za0 y) 14, L (L za0 y) 15]) 10), .int .u8 (L (L za1 [L (L za0 y) 0, L (L za0 y) 1, L (L za0 y) 2, L (L za0 y) 3, L (L za0 y) 4, L (L za0 y) 5, L (L za0 y) 6, L (L za0 y) 7, L (L za0 y) 8, L (L za0 y) 9, L (L za0 y) 10, L (L za0 y) 11, L (L za0 y) 12, L (L za0 y) 13, L (L za0 y) 14, L (L za0 y) 15]) 11), .int .u8 (L (L za1 [L (L za0 y) 0, L (L za0 y) 1, L (L za0 y) 2, L (L za0 y) 3, L (L za0 y) 4, L (L za0 y) 5, L (L za0 y) 6, L (L za0 y) 7, L (L za0 y) 8, L (L za0 y) 9, L (L za0 y) 10, L (L za0 y) 11, L (L za0 y) 12, L (L za0 y) 13, L (L za0 y) 14, L (L za0 y) 15]) 12), .int .u8 (L (L za1 [L (L za0 y) 0, L (L za0 y) 1, L (L za0 y) 2, L (L za0 y) 3, L (L za0 y) 4, L (L za0 y) 5, L (L za0 y) 6, L (L za0 y) 7, L (L za0 y) 8, L (L za0 y) 9, L (L za0 y) 10, L (L za0 y) 11, L (L za0 y) 12, L (L za0 y) 13, L (L za0 y) 14, L (L za0 y) 15]) 13), .int .u8 (L (L za1 [L (L za0 y) 0, L (L za0 y) 1, L (L za0 y) 2, L (L za0 y) 3, L (L za0 y) 4, L (L za0 y) 5, L (L za0 y) 6, L (L za0 y) 7, L (L za0 y) 8, L (L za0 y) 9, L (L za0 y) 10, L (L za0 y) 11, L (L za0 y) 12, L (L za0 y) 13, L (L za0 y) 14, L (L za0 y) 15]) 14), .int .u8 (L (L za1 [L (L za0 y) 0, L (L za0 y) 1, L (L za0 y) 2, L (L za0 y) 3, L (L za0 y) 4, L (L za0 y) 5, L (L za0 y) 6, L (L za0 y) 7, L (L za0 y) 8, L (L za0 y) 9, L (L za0 y) 10, L (L za0 y) 11, L (L za0 y) 12, L (L za0 y) 13, L (L za0 y) 14, L (L za0 y) 15]) 15), .int .i64 d, .bool h]) = L (L (L Le.mk y) d) h := by subst hL; exact fun y d h => (zc9 ⟨y, d, h⟩).2
 have hFo : ∀ (y : Pr) (d : Int) (h : Bool), (L zei (.agg [.int .u8 (L (L za1 [L (L za0 y) 0, L (L za0 y) 1, L (L za0 y) 2, L (L za0 y) 3, L (L za0 y) 4, L (L za0 y) 5, L (L za0 y) 6, L (L za0 y) 7, L (L za0 y) 8, L (L za0 y) 9, L (L za0 y) 10, L (L za0 y) 11, L (L za0 y) 12, L (L za0 y) 13, L (L za0 y) 14, L (L za0 y) 15]) 0), .int .u8 (L (L za1 [L (L za0 y) 0, L (L za0 y) 1, L (L za0 y) 2, L (L za0 y) 3, L (L za0 y) 4, L (L za0 y) 5, L (L za0 y) 6, L (L za0 y) 7, L (L za0 y) 8, L (L za0 y) 9, L (L za0 y) 10, L (L za0 y) 11, L (L za0 y) 12, L (L za0 y) 13, L (L za0 y) 14, L (L za0 y) 15]) 1), .int .u8 (L (L za1 [L (L za0 y) 0, L (L za0 y) 1, L (L za0 y) 2, L (L za0 y) 3, L (L za0 y) 4, L (L za0 y) 5, L (L za0 y) 6, L (L za0 y) 7, L (L za0 y) 8, L (L za0 y) 9, L (L za0 y) 10, L (L za0 y) 11, L (L za0 y) 12, L (L za0 y) 13, L (L za0 y) 14, L (L za0 y) 15]) 2), .int .u8 (L (L za1 [L (L za0 y) 0, L (L za0 y) 1, L (L za0 y) 2, L (L za0 y) 3, L (L za0 y) 4, L (L za0 y) 5, L (L za0 y) 6, L (L za0 y) 7, L (L za0 y) 8, L (L za0 y) 9, L (L za0 y) 10, L (L za0 y) 11, L (L za0 y) 12, L (L za0 y) 13, L (L za0 y) 14, L (L za0 y) 15]) 3), .int .u8 (L (L za1 [L (L za0 y) 0, L (L za0 y) 1, L (L za0 y) 2, L (L za0 y) 3, L (L za0 y) 4, L (L za0 y) 5, L (L za0 y) 6, L (L za0 y) 7, L (L za0 y) 8, L (L za0 y) 9, L (L za0 y) 10, L (L za0 y) 11, L (L za0 y) 12, L (L za0 y) 13, L (L za0 y) 14, L (L za0 y) 15]) 4), .int .u8 (L (L za1 [L (L za0 y) 0, L (L za0 y) 1, L (L za0 y) 2, L (L za0 y) 3, L (L za0 y) 4, L (L za0 y) 5, L (L za0 y) 6, L (L za0 y) 7, L (L za0 y) 8, L (L za0 y) 9, L (L za0 y) 10, L (L za0 y) 11, L (L za0 y) 12, L (L za0 y) 13, L (L za0 y) 14, L (L za0 y) 15]) 5), .int .u8 (L (L za1 [L (L za0 y) 0, L (L za0 y) 1, L (L za0 y) 2, L (L za0 y) 3, L (L za0 y) 4, L (L za0 y) 5, L (L za0 y) 6, L (L za0 y) 7, L (L za0 y) 8, L (L za0 y) 9, L (L za0 y) 10, L (L za0 y) 11, L (L za0 y) 12, L (L za0 y) 13, L (L za0 y) 14, L (L za0 y) 15]) 6), .int .u8 (L (L za1 [L (L za0 y) 0, L (L za0 y) 1, L (L za0 y) 2, L (L za0 y) 3, L (L za0 y) 4, L (L za0 y) 5, L (L za0 y) 6, L (L za0 y) 7, L (L za0 y) 8, L (L za0 y) 9, L (L za0 y) 10, L (L za0 y) 11, L (L za0 y) 12, L (L za0 y) 13, L (L za0 y) 14, L (L za0 y) 15]) 7), .int .u8 (L (L za1 [L (L za0 y) 0, L (L za0 y) 1, L (L za0 y) 2, L (L za0 y) 3, L (L za0 y) 4, L (L za0 y) 5, L (L za0 y) 6, L (L za0 y) 7, L (L za0 y) 8, L (L za0 y) 9, L (L za0 y) 10, L (L za0 y) 11, L (L za0 y) 12, L (L za0 y) 13, L (L za0 y) 14, L (L za0 y) 15]) 8), .int .u8 (L (L za1 [L (L za0 y) 0, L (L za0 y) 1, L (L za0 y) 2, L (L za0 y) 3, L (L za0 y) 4, L (L za0 y) 5, L (L za0 y) 6, L (L za0 y) 7, L (L za0 y) 8, L (L za0 y) 9, L (L za0 y) 10, L (L za0 y) 11, L (L za0 y) 12, L (L za0 y) 13, L (L za0 y) 14, L (L za0 y) 15]) 9), .int .u8 (L (L za1 [L (L za0 y) 0, L (L za0 y) 1, L (L za0 y) 2, L (L za0 y) 3, L (L za0 y) 4, L (L za0 y) 5, L (L za0 y) 6, L (L za0 y) 7, L (L za0 y) 8, L (L za0 y) 9, L (L za0 y) 10, L (L za0 y) 11, L (L za0 y) 12, L (L za0 y) 13, L (L za0 y) 14, L (L za0 y) 15]) 10), .int .u8 (L (L za1 [L (L za0 y) 0, L (L za0 y) 1, L (L za0 y) 2, L (L za0 y) 3, L (L za0 y) 4, L (L za0 y) 5, L (L za0 y) 6, L (L za0 y) 7, L (L za0 y) 8, L (L za0 y) 9, L (L za0 y) 10, L (L za0 y) 11, L (L za0 y) 12, L (L za0 y) 13, L (L za0 y) 14, L (L za0 y) 15]) 11), .int .u8 (L (L za1 [L (L za0 y) 0, L (L za0 y) 1, L (L za0 y) 2, L (L za0 y) 3, L (L za0 y) 4, L (L za0 y) 5, L (L za0 y) 6, L (L za0 y) 7, L (L za0 y) 8, L (L za0 y) 9, L (L za0 y) 10, L (L za0 y) 11, L (L za0 y) 12, L (L za0 y) 13, L (L za0 y) 14, L (L za0 y) 15]) 12), .int .u8 (L (L za1 [L (L za0 y) 0, L (L za0 y) 1, L (L za0 y) 2, L (L za0 y) 3, L (L za0 y) 4, L (L za0 y) 5, L (L za0 y) 6, L (L za0 y) 7, L (L za0 y) 8, L (L za0 y) 9, L (L za0 y) 10, L (L za0 y) 11, L (L za0 y) 12, L (L za0 y) 13, L (L za0 y) 14, L (L za0 y) 15]) 13), .int .u8 (L (L za1 [L (L za0 y) 0, L (L za0 y) 1, L (L za0 y) 2, L (L za0 y) 3, L (L za0 y) 4, L (L za0 y) 5, L (L za0 y) 6, L (L za0 y) 7, L (L za0 y) 8, L (L za0 y) 9, L (L za0 y) 10, L (L za0 y) 11, L (L za0 y) 12, L (L za0 y) 13, L (L za0 y) 14, L (L za0 y) 15]) 14), .int .u8 (L (L za1 [L (L za0 y) 0, L (L za0 y) 1, L (L za0 y) 2, L (L za0 y) 3, L (L za0 y) 4, L (L za0 y) 5, L (L za0 y) 6, L (L za0 y) 7, L (L za0 y) 8, L (L za0 y) 9, L (L za0 y) 10, L (L za0 y) 11, L (L za0 y) 12, L (L za0 y) 13, L (L za0 y) 14, L (L za0 y) 15]) 15), .int .i64 d, .bool h])) = True := by subst hL; exact fun y d h => eq_true (zc9 ⟨y, d, h⟩).1
 have hEta : ∀ y : Le, L (L (L Le.mk (L Le.p y)) (L Le.d y)) (L Le.h y) = y := by subst hL; exact fun y => rfl
 have hMp : ∀ (y : Pr) (d : Int) (h : Bool), L Le.p (L (L (L Le.mk y) d) h) = y := by subst hL; exact fun y d h => rfl
 have hQ0 : ∀ y : Pr, L zar (.agg [.int .u8 (L (L za0 y) 0), .int .u8 (L (L za0 y) 1), .int .u8 (L (L za0 y) 2), .int .u8 (L (L za0 y) 3), .int .u8 (L (L za0 y) 4), .int .u8 (L (L za0 y) 5), .int .u8 (L (L za0 y) 6), .int .u8 (L (L za0 y) 7), .int .u8 (L (L za0 y) 8), .int .u8 (L (L za0 y) 9), .int .u8 (L (L za0 y) 10), .int .u8 (L (L za0 y) 11), .int .u8 (L (L za0 y) 12), .int .u8 (L (L za0 y) 13), .int .u8 (L (L za0 y) 14), .int .u8 (L (L za0 y) 15)]) = y := by subst hL; exact fun y => (zc3 y).2
 have hQo : ∀ y : Pr, (L zd2 (.agg [.int .u8 (L (L za0 y) 0), .int .u8 (L (L za0 y) 1), .int .u8 (L (L za0 y) 2), .int .u8 (L (L za0 y) 3), .int .u8 (L (L za0 y) 4), .int .u8 (L (L za0 y) 5), .int .u8 (L (L za0 y) 6), .int .u8 (L (L za0 y) 7), .int .u8 (L (L za0 y) 8), .int .u8 (L (L za0 y) 9), .int .u8 (L (L za0 y) 10), .int .u8 (L (L za0 y) 11), .int .u8 (L (L za0 y) 12), .int .u8 (L (L za0 y) 13), .int .u8 (L (L za0 y) 14), .int .u8 (L (L za0 y) 15)])) = True := by subst hL; exact fun y => eq_true (zc3 y).1
 have hQ1 : ∀ y : Pr, L zar (.agg [.int .u8 (L (L za1 [L (L za0 y) 0, L (L za0 y) 1, L (L za0 y) 2, L (L za0 y) 3, L (L za0 y) 4, L (L za0 y) 5, L (L za0 y) 6, L (L za0 y) 7, L (L za0 y) 8, L (L za0 y) 9, L (L za0 y) 10, L (L za0 y) 11, L (L za0 y) 12, L (L za0 y) 13, L (L za0 y) 14, L (L za0 y) 15]) 0), .int .u8 (L (L za1 [L (L za0 y) 0, L (L za0 y) 1, L (L za0 y) 2, L (L za0 y) 3, L (L za0 y) 4, L (L za0 y) 5, L (L za0 y) 6, L (L za0 y) 7, L (L za0 y) 8, L (L za0 y) 9, L (L za0 y) 10, L (L za0 y) 11, L (L za0 y) 12, L (L za0 y) 13, L (L za0 y) 14, L (L za0 y) 15]) 1), .int .u8 (L (L za1 [L (L za0 y) 0, L (L za0 y) 1, L (L za0 y) 2, L (L za0 y) 3, L (L za0 y) 4, L (L za0 y) 5, L (L za0 y) 6, L (L za0 y) 7, L (L za0 y) 8, L (L za0 y) 9, L (L za0 y) 10, L (L za0 y) 11, L (L za0 y) 12, L (L za0 y) 13, L (L za0 y) 14, L (L za0 y) 15]) 2), .int .u8 (L (L za1 [L (L za0 y) 0, L (L za0 y) 1, L (L za0 y) 2, L (L za0 y) 3, L (L za0 y) 4, L (L za0 y) 5, L (L za0 y) 6, L (L za0 y) 7, L (L za0 y) 8, L (L za0 y) 9, L (L za0 y) 10, L (L za0 y) 11, L (L za0 y) 12, L (L za0 y) 13, L (L za0 y) 14, L (L za0 y) 15]) 3), .int .u8 (L (L za1 [L (L za0 y) 0, L (L za0 y) 1, L (L za0 y) 2, L (L za0 y) 3, L (L za0 y) 4, L (L za0 y) 5, L (L za0 y) 6, L (L za0 y) 7, L (L za0 y) 8, L (L za0 y) 9, L (L za0 y) 10, L (L za0 y) 11, L (L za0 y) 12, L (L za0 y) 13, L (L za0 y) 14, L (L za0 y) 15]) 4), .int .u8 (L (L za1 [L (L za0 y) 0, L (L za0 y) 1, L (L za0 y) 2, L (L za0 y) 3, L (L za0 y) 4, L (L za0 y) 5, L (L za0 y) 6, L (L za0 y) 7, L (L za0 y) 8, L (L za0 y) 9, L (L za0 y) 10, L (L za0 y) 11, L (L za0 y) 12, L (L za0 y) 13, L (L za0 y) 14, L (L za0 y) 15]) 5), .int .u8 (L (L za1 [L (L za0 y) 0, L (L za0 y) 1, L (L za0 y) 2, L (L za0 y) 3, L (L za0 y) 4, L (L za0 y) 5, L (L za0 y) 6, L (L za0 y) 7, L (L za0 y) 8, L (L za0 y) 9, L (L za0 y) 10, L (L za0 y) 11, L (L za0 y) 12, L (L za0 y) 13, L (L za0 y) 14, L (L za0 y) 15]) 6), .int .u8 (L (L za1 [L (L za0 y) 0, L (L za0 y) 1, L (L za0 y) 2, L (L za0 y) 3, L (L za0 y) 4, L (L za0 y) 5, L (L za0 y) 6, L (L za0 y) 7, L (L za0 y) 8, L (L za0 y) 9, L (L za0 y) 10, L (L za0 y) 11, L (L za0 y) 12, L (L za0 y) 13, L (L za0 y) 14, L (L za0 y) 15]) 7), .int .u8 (L (L za1 [L (L za0 y) 0, L (L za0 y) 1, L (L za0 y) 2, L (L za0 y) 3, L (L za0 y) 4, L (L za0 y) 5, L (L za0 y) 6, L (L za0 y) 7, L (L za0 y) 8, L (L za0 y) 9, L (L za0 y) 10, L (L za0 y) 11, L (L za0 y) 12, L (L za0 y) 13, L (L za0 y) 14, L (L za0 y) 15]) 8), .int .u8 (L (L za1 [L (L za0 y) 0, L (L za0 y) 1, L (L za0 y) 2, L (L za0 y) 3, L (L za0 y) 4, L (L za0 y) 5, L (L za0 y) 6, L (L za0 y) 7, L (L za0 y) 8, L (L za0 y) 9, L (L za0 y) 10, L (L za0 y) 11, L (L za0 y) 12, L (L za0 y) 13, L (L za0 y) 14, L (L za0 y) 15]) 9), .int .u8 (L (L za1 [L (L za0 y) 0, L (L za0 y) 1, L (L za0 y) 2, L (L za0 y) 3, L (L za0 y) 4, L (L za0 y) 5, L (L za0 y) 6, L (L za0 y) 7, L (L za0 y) 8, L (L za0 y) 9, L (L za0 y) 10, L (L za0 y) 11, L (L za0 y) 12, L (L za0 y) 13, L (L za0 y) 14, L (L za0 y) 15]) 10), .int .u8 (L (L za1 [L (L za0 y) 0, L (L za0 y) 1, L (L za0 y) 2, L (L za0 y) 3, L (L za0 y) 4, L (L za0 y) 5, L (L za0 y) 6, L (L za0 y) 7, L (L za0 y) 8, L (L za0 y) 9, L (L za0 y) 10, L (L za0 y) 11, L (L za0 y) 12, L (L za0 y) 13, L (L za0 y) 14, L (L za0 y) 15]) 11), .int .u8 (L (L za1 [L (L za0 y) 0, L (L za0 y) 1, L (L za0 y) 2, L (L za0 y) 3, L (L za0 y) 4, L (L za0 y) 5, L (L za0 y) 6, L (L za0 y) 7, L (L za0 y) 8, L (L za0 y) 9, L (L za0 y) 10, L (L za0 y) 11, L (L za0 y) 12, L (L za0 y) 13, L (L za0 y) 14, L (L za0 y) 15]) 12), .int .u8 (L (L za1 [L (L za0 y) 0, L (L za0 y) 1, L (L za0 y) 2, L (L za0 y) 3, L (L za0 y) 4, L (L za0 y) 5, L (L za0 y) 6, L (L za0 y) 7, L (L za0 y) 8, L (L za0 y) 9, L (L za0 y) 10, L (L za0 y) 11, L (L za0 y) 12, L (L za0 y) 13, L (L za0 y) 14, L (L za0 y) 15]) 13), .int .u8 (L (L za1 [L (L za0 y) 0, L (L za0 y) 1, L (L za0 y) 2, L (L za0 y) 3, L (L za0 y) 4, L (L za0 y) 5, L (L za0 y) 6, L (L za0 y) 7, L (L za0 y) 8, L (L za0 y) 9, L (L za0 y) 10, L (L za0 y) 11, L (L za0 y) 12, L (L za0 y) 13, L (L za0 y) 14, L (L za0 y) 15]) 14), .int .u8 (L (L za1 [L (L za0 y) 0, L (L za0 y) 1, L (L za0 y) 2, L (L za0 y) 3, L (L za0 y) 4, L (L za0 y) 5, L (L za0 y) 6, L (L za0 y) 7, L (L za0 y) 8, L (L za0 y) 9, L (L za0 y) 10, L (L za0 y) 11, L (L za0 y) 12, L (L za0 y) 13, L (L za0 y) 14, L (L za0 y) 15]) 15)]) = y := by subst hL; exact fun y => (zc3 y).2
 have hQ1o : ∀ y : Pr, (L zd2 (.agg [.int .u8 (L (L za1 [L (L za0 y) 0, L (L za0 y) 1, L (L za0 y) 2, L (L za0 y) 3, L (L za0 y) 4, L (L za0 y) 5, L (L za0 y) 6, L (L za0 y) 7, L (L za0 y) 8, L (L za0 y) 9, L (L za0 y) 10, L (L za0 y) 11, L (L za0 y) 12, L (L za0 y) 13, L (L za0 y) 14, L (L za0 y) 15]) 0), .int .u8 (L (L za1 [L (L za0 y) 0, L (L za0 y) 1, L (L za0 y) 2, L (L za0 y) 3, L (L za0 y) 4, L (L za0 y) 5, L (L za0 y) 6, L (L za0 y) 7, L (L za0 y) 8, L (L za0 y) 9, L (L za0 y) 10, L (L za0 y) 11, L (L za0 y) 12, L (L za0 y) 13, L (L za0 y) 14, L (L za0 y) 15]) 1), .int .u8 (L (L za1 [L (L za0 y) 0, L (L za0 y) 1, L (L za0 y) 2, L (L za0 y) 3, L (L za0 y) 4, L (L za0 y) 5, L (L za0 y) 6, L (L za0 y) 7, L (L za0 y) 8, L (L za0 y) 9, L (L za0 y) 10, L (L za0 y) 11, L (L za0 y) 12, L (L za0 y) 13, L (L za0 y) 14, L (L za0 y) 15]) 2), .int .u8 (L (L za1 [L (L za0 y) 0, L (L za0 y) 1, L (L za0 y) 2, L (L za0 y) 3, L (L za0 y) 4, L (L za0 y) 5, L (L za0 y) 6, L (L za0 y) 7, L (L za0 y) 8, L (L za0 y) 9, L (L za0 y) 10, L (L za0 y) 11, L (L za0 y) 12, L (L za0 y) 13, L (L za0 y) 14, L (L za0 y) 15]) 3), .int .u8 (L (L za1 [L (L za0 y) 0, L (L za0 y) 1, L (L za0 y) 2, L (L za0 y) 3, L (L za0 y) 4, L (L za0 y) 5, L (L za0 y) 6, L (L za0 y) 7, L (L za0 y) 8, L (L za0 y) 9, L (L za0 y) 10, L (L za0 y) 11, L (L za0 y) 12, L (L za0 y) 13, L (L za0 y) 14, L (L za0 y) 15]) 4), .int .u8 (L (L za1 [L (L za0 y) 0, L (L za0 y) 1, L (L za0 y) 2, L (L za0 y) 3, L (L za0 y) 4, L (L za0 y) 5, L (L za0 y) 6, L (L za0 y) 7, L (L za0 y) 8, L (L za0 y) 9, L (L za0 y) 10, L (L za0 y) 11, L (L za0 y) 12, L (L za0 y) 13, L (L za0 y) 14, L (L za0 y) 15]) 5), .int .u8 (L (L za1 [L (L za0 y) 0, L (L za0 y) 1, L (L za0 y) 2, L (L za0 y) 3, L (L za0 y) 4, L (L za0 y) 5, L (L za0 y) 6, L (L za0 y) 7, L (L za0 y) 8, L (L za0 y) 9, L (L za0 y) 10, L (L za0 y) 11, L (L za0 y) 12, L (L za0 y) 13, L (L za0 y) 14, L (L za0 y) 15]) 6), .int .u8 (L (L za1 [L (L za0 y) 0, L (L za0 y) 1, L (L za0 y) 2, L (L za0 y) 3, L (L za0 y) 4, L (L za0 y) 5, L (L za0 y) 6, L (L za0 y) 7, L (L za0 y) 8, L (L za0 y) 9, L (L za0 y) 10, L (L za0 y) 11, L (L za0 y) 12, L (L za0 y) 13, L (L za0 y) 14, L (L za0 y) 15]) 7), .int .u8 (L (L za1 [L (L za0 y) 0, L (L za0 y) 1, L (L za0 y) 2, L (L za0 y) 3, L (L za0 y) 4, L (L za0 y) 5, L (L za0 y) 6, L (L za0 y) 7, L (L za0 y) 8, L (L za0 y) 9, L (L za0 y) 10, L (L za0 y) 11, L (L za0 y) 12, L (L za0 y) 13, L (L za0 y) 14, L (L za0 y) 15]) 8), .int .u8 (L (L za1 [L (L za0 y) 0, L (L za0 y) 1, L (L za0 y) 2, L (L za0 y) 3, L (L za0 y) 4, L (L za0 y) 5, L (L za0 y) 6, L (L za0 y) 7, L (L za0 y) 8, L (L za0 y) 9, L (L za0 y) 10, L (L za0 y) 11, L (L za0 y) 12, L (L za0 y) 13, L (L za0 y) 14, L (L za0 y) 15]) 9), .int .u8 (L (L za1 [L (L za0 y) 0, L (L za0 y) 1, L (L za0 y) 2, L (L za0 y) 3, L (L za0 y) 4, L (L za0 y) 5, L (L za0 y) 6, L (L za0 y) 7, L (L za0 y) 8, L (L za0 y) 9, L (L za0 y) 10, L (L za0 y) 11, L (L za0 y) 12, L (L za0 y) 13, L (L za0 y) 14, L (L za0 y) 15]) 10), .int .u8 (L (L za1 [L (L za0 y) 0, L (L za0 y) 1, L (L za0 y) 2, L (L za0 y) 3, L (L za0 y) 4, L (L za0 y) 5, L (L za0 y) 6, L (L za0 y) 7, L (L za0 y) 8, L (L za0 y) 9, L (L za0 y) 10, L (L za0 y) 11, L (L za0 y) 12, L (L za0 y) 13, L (L za0 y) 14, L (L za0 y) 15]) 11), .int .u8 (L (L za1 [L (L za0 y) 0, L (L za0 y) 1, L (L za0 y) 2, L (L za0 y) 3, L (L za0 y) 4, L (L za0 y) 5, L (L za0 y) 6, L (L za0 y) 7, L (L za0 y) 8, L (L za0 y) 9, L (L za0 y) 10, L (L za0 y) 11, L (L za0 y) 12, L (L za0 y) 13, L (L za0 y) 14, L (L za0 y) 15]) 12), .int .u8 (L (L za1 [L (L za0 y) 0, L (L za0 y) 1, L (L za0 y) 2, L (L za0 y) 3, L (L za0 y) 4, L (L za0 y) 5, L (L za0 y) 6, L (L za0 y) 7, L (L za0 y) 8, L (L za0 y) 9, L (L za0 y) 10, L (L za0 y) 11, L (L za0 y) 12, L (L za0 y) 13, L (L za0 y) 14, L (L za0 y) 15]) 13), .int .u8 (L (L za1 [L (L za0 y) 0, L (L za0 y) 1, L (L za0 y) 2, L (L za0 y) 3, L (L za0 y) 4, L (L za0 y) 5, L (L za0 y) 6, L (L za0 y) 7, L (L za0 y) 8, L (L za0 y) 9, L (L za0 y) 10, L (L za0 y) 11, L (L za0 y) 12, L (L za0 y) 13, L (L za0 y) 14, L (L za0 y) 15]) 14), .int .u8 (L (L za1 [L (L za0 y) 0, L (L za0 y) 1, L (L za0 y) 2, L (L za0 y) 3, L (L za0 y) 4, L (L za0 y) 5, L (L za0 y) 6, L (L za0 y) 7, L (L za0 y) 8, L (L za0 y) 9, L (L za0 y) 10, L (L za0 y) 11, L (L za0 y) 12, L (L za0 y) 13, L (L za0 y) 14, L (L za0 y) 15]) 15)])) = True := by subst hL; exact fun y => eq_true (zc3 y).1
 have hG : ∀ y : List Le, L zak (.lst 18 (L zfl y) (fun i => leC L (L (L zao y) i))) = y := by subst hL; exact fun y => zoh y
 have hGo : ∀ y : List Le, (L zfa (.lst 18 (L zfl y) (fun i => leC L (L (L zao y) i)))) = True := by subst hL; exact fun y => eq_true (zos y)
 (cbv; try simp only [syT, true_and, and_true])
 simp only [hE, hEo, hF, hFo, hEta, hMp, hQ1, hQ1o, hQ0, hQo, hG, hGo, true_and]
 subst hL; subst hQ
 have hw : zfl l = l.length := rfl
 have hz : l.length <= 1000000 := hz
 have hlb := zi8 (prN e.p) l
 have w1 : zce .i64 (ze0 l e.p) 1 = ze0 l e.p + 1 := by
   unfold ze0 zce
   rw [zdj]; omega
 have hdel : zb6 e.p l = true -> yeq l.length (ze0 l e.p) (zce .i64 (ze0 l e.p) 1) := fun h => by
   obtain ⟨h2, _⟩ := (zgm hok hpo.1).1 h
   exact ⟨hz, Int.natCast_nonneg _, Int.ofNat_lt.2 h2, w1⟩
 have hins1 : zb6 e.p l = true -> ye6 (zfr l.length) (ze0 l e.p) := fun h => by
   obtain ⟨h2, _⟩ := (zgm hok hpo.1).1 h
   exact ⟨by unfold zfr; omega, Int.natCast_nonneg _, by unfold ze0 zfr; omega⟩
 have hins2 : ye6 l.length (ze0 l e.p) := ⟨hz, Int.natCast_nonneg _, by unfold ze0; omega⟩
 refine ⟨fun _ _ _ _ => trivial, hz, ⟨hz, hok, hpo.1⟩, fun hh => ⟨fun _ _ _ _ => trivial, hdel hh, fun hd => ⟨fun _ _ _ _ => trivial, fun _ _ _ _ => trivial, hins1 hh, yf7 hok hpo hh (zzb hd)⟩, fun hd => ⟨fun hy => ⟨fun _ _ _ _ => trivial, fun _ _ _ _ => trivial, hins1 hh, yf7 hok hpo hh (zza hy)⟩, fun hy => ykx hok hpo hh (ztg hd hy)⟩⟩, fun hh => ⟨fun hd => ⟨fun _ _ _ _ => trivial, fun _ _ _ _ => trivial, hins2, yf6 hh (zzb hd)⟩, fun hd => ⟨fun hy => ⟨fun _ _ _ _ => trivial, fun _ _ _ _ => trivial, hins2, yf6 hh (zza hy)⟩, fun hy => ykw hh (ztg hd hy)⟩⟩⟩
end Sy
end Go.Proofs.YtlphgephdhadhaaGreat
