/-Small facts on worlds, strings as lists of bytes, rows of bytes: used by every walk of this seat; no statement of the seat is proved here; and what stands between these and the texts behind.-/
import Derived.Test.YtlphgephdhadhaaGreatRows
import Derived.WalkKit
import Derived.WalkSpells
import Derived.WalkLawsBesides
import Derived.Deep.DeepCutAuto
import Derived.Deep.OwnRows
import Derived.Laws.IdiomStrings
import Derived.Lib.Hide
import Derived.Below
import Derived.ChangeSame
import Derived.ScopeJumps
import Derived.ProofKit
import Derived.OpenShut
import Derived.Carry
import Derived.Lib.SmallJoins
import Derived.RegionTactic
import Derived.BigRegion
import Derived.Test.YtlphgephdhadhaaGreatM3
import Derived.Lib.Bytealg
import Derived.ChangeArms
import Derived.ChangeSlices
import Derived.WideShapes
import Derived.Lib.Overlaps
import Derived.Lib.Builder
import Derived.Lib.BytesEntry
namespace Go.Proofs.YtlphgephdhadhaaGreat
open Go.RowKit Go.WideShapes Go.ChangeShapes Go.ChangeAt
def zlb (b : UInt8) : Value := .int .u8 (b.toNat : Int)
def str (l : List UInt8) : Value := .string ⟨l.toArray⟩
theorem zgy (n : Nat) : zlb (UInt8.ofNat n) = .int .u8 ((n : Int) % 256) := by
 have h : (((UInt8.ofNat n).toNat : Nat) : Int) = (n : Int) % 256 := by
   rw [UInt8.toNat_ofNat']; omega
 unfold zlb; rw [h]
@[go_sem] theorem ba_get (l : List UInt8) (k : Nat) (h : k < (⟨l.toArray⟩ : ByteArray).size) : (⟨l.toArray⟩ : ByteArray)[k] = l[k]'h := rfl
@[go_sem] theorem ba_append (a b : List UInt8) : (⟨a.toArray⟩ : ByteArray) ++ ⟨b.toArray⟩ = ⟨(a ++ b).toArray⟩ := by
 apply ByteArray.ext; simp
theorem zhv (l : List UInt8) (a b : Nat) : (⟨l.toArray⟩ : ByteArray).extract a b = ⟨((l.drop a).take (b - a)).toArray⟩ := by
 apply ByteArray.ext; simp [ByteArray.data_extract]
@[go_sem] theorem ba_extract_all (l : List UInt8) (a : Nat) : (⟨l.toArray⟩ : ByteArray).extract a l.length = ⟨(l.drop a).toArray⟩ := by
 rw [zhv, List.take_of_length_le (by simp)]
@[go_sem] theorem ba_extract_zero (l : List UInt8) (b : Nat) : (⟨l.toArray⟩ : ByteArray).extract 0 b = ⟨(l.take b).toArray⟩ := by
 rw [zhv, List.drop_zero, Nat.sub_zero]
@[go_sem] theorem wrap_byte_u64 (b : UInt8) : IntKind.u64.wrap (b.toNat : Int) = b.toNat := by
 have := b.toNat_lt; rw [IntKind.wrap_u64]; omega
@[go_sem] theorem wrap_byte_u32 (b : UInt8) : IntKind.u32.wrap (b.toNat : Int) = b.toNat := by
 have := b.toNat_lt; rw [IntKind.wrap_u32]; omega
@[go_sem] theorem wrap_byte_u16 (b : UInt8) : IntKind.u16.wrap (b.toNat : Int) = b.toNat := by
 have := b.toNat_lt; rw [IntKind.wrap_u16]; omega
@[go_sem] theorem wrap_byte_u8 (b : UInt8) : IntKind.u8.wrap (b.toNat : Int) = b.toNat := by
 have := b.toNat_lt; rw [IntKind.wrap_u8]; omega
@[go_sem] theorem wrap_byte_i64 (b : UInt8) : IntKind.i64.wrap (b.toNat : Int) = b.toNat := by
 have := b.toNat_lt; rw [IntKind.wrap_i64]; omega
theorem zhw (g j : Nat) : (⟨g, 0, none⟩ : Addr).add j = ⟨g, j, none⟩ := by
 unfold Addr.add
 split
 · rename_i h; rw [h]
 · rw [Nat.zero_add]
theorem yf9 {P : Program} {w : World} {src dst e : TypeId} {g n cap : Nat} {f : Nat -> Value} (l : List UInt8) (hs : P.underlying src = some (.slice e)) (he : P.underlying e = some (.int .u8)) (hd : P.underlying dst = some .string)
   (hr : w.rowIs g e n f) (hl : l.length = n) (hf : ∀ i (hi : i < l.length), f i = zlb l[i]) :
   (convert src dst (.slice (some ⟨g, 0, none⟩) n cap)).run P w = .ok (.string ⟨l.toArray⟩) w := by
 subst hl
 refine run_convert_bytes_back w src dst e _ cap l hs he hd fun j hj => ?_
 have := hr.cell hj
 rw [hf j hj] at this
 rw [zhw]
 exact this
def Row (w : World) (b : Nat) (t : TypeId) (n : Nat) (f : Nat -> Value) : Prop :=
 ∃ (c : Array Value) (lo hi : Nat), w.heap[b]? = some (.cells c t (lo, hi)) /\ n <= c.size /\ (hi = 0 \/ n <= lo) /\ ∀ i, i < n -> c[i]? = some (f i)
section
variable {w w' : World} {b : Nat} {t : TypeId} {n : Nat} {f g : Nat -> Value}
theorem Row.cell (h : Row w b t n f) {i : Nat} (hi : i < n) : w.cell? ⟨b, i, none⟩ = some (f i) := by
 obtain ⟨c, lo, hi', hb, _, _, hc⟩ := h
 simp [World.cell?, hb, hc i hi]
theorem Row.frozen (h : Row w b t n f) {i : Nat} (hi : i < n) : w.frozen? ⟨b, i, none⟩ = false := by
 obtain ⟨c, lo, hi', hb, _, hf, _⟩ := h
 simp only [World.frozen?, hb]
 rcases hf with hf | hf
 · subst hf; simp
 · simp; omega
theorem Row.lt (h : Row w b t n f) : b < w.heap.size := by
 obtain ⟨c, lo, hi, hb, _⟩ := h
 exact (Array.getElem?_eq_some_iff.1 hb).1
theorem Row.congr (h : Row w b t n f) (e : ∀ i, i < n -> f i = g i) : Row w b t n g := by
 obtain ⟨c, lo, hi, hb, hn, hf, hc⟩ := h
 exact ⟨c, lo, hi, hb, hn, hf, fun i hi => by rw [hc i hi, e i hi]⟩
theorem Row.of_block (h : Row w b t n f) (e : w'.heap[b]? = w.heap[b]?) : Row w' b t n f := by
 obtain ⟨c, lo, hi, hb, hn, hf, hc⟩ := h
 exact ⟨c, lo, hi, e.trans hb, hn, hf, hc⟩
theorem Row.set (h : Row w b t n f) (i : Nat) (v : Value) : Row (w.setCell ⟨b, i, none⟩ v) b t n (fun j => if j = i then v else f j) := by
 obtain ⟨c, lo, hi', hb, hn, hf, hc⟩ := h
 refine ⟨c.setIfInBounds i v, lo, hi', ?_, by simpa using hn, hf, fun j hj => ?_⟩
 · simp [World.setCell, Array.getElem?_modify, hb]
 · rw [Array.getElem?_setIfInBounds]
   by_cases e : i = j
   · subst e
     have : i < c.size := by omega
     simp [this]
   · rw [if_neg e, hc j hj]
     show _ = some (if j = i then v else f j)
     rw [if_neg (fun (h : j = i) => e h.symm)]
theorem Row.alloc (h : Row w b t n f) (o : Obj) : Row (w.alloc o) b t n f := h.of_block (Below.heap_alloc _ _ _ h.lt)
theorem Row.bytes (w : World) (t : TypeId) (l : List UInt8) (cap : Nat) : Row (w.alloc (.cells (bytesRow ⟨l.toArray⟩ cap) t ((bytesRow ⟨l.toArray⟩ cap).size, (bytesRow ⟨l.toArray⟩ cap).size + 1))) w.heap.size t l.length (fun j => zlb (l.getD j 0)) := by
 refine ⟨bytesRow ⟨l.toArray⟩ cap, _, _, heap_alloc_new _ _, by simp [bytesRow], .inr (by simp [bytesRow]), fun i hi => ?_⟩
 rw [bytesRow_at _ _ _ (by simpa using hi)]
 simp [zlb, hi]
end
def Blk (w : World) (g : Nat) (t : TypeId) (cs : Array Value) : Prop := w.heap[g]? = some (.cells cs t (0, 0))
section
variable {w w' : World} {g : Nat} {t : TypeId} {cs : Array Value}
theorem Blk.lt (h : Blk w g t cs) : g < w.heap.size := by
 rcases Nat.lt_or_ge g w.heap.size with hlt | hge
 · exact hlt
 · unfold Blk at h; rw [Array.getElem?_eq_none hge] at h; cases h
theorem Blk.cell (h : Blk w g t cs) (i : Nat) : w.cell? ⟨g, i, none⟩ = cs[i]? := cell_of_row w g i cs t (0, 0) h
theorem Blk.frozen (h : Blk w g t cs) (i : Nat) : w.frozen? ⟨g, i, none⟩ = false := by
 unfold Blk at h
 simp [World.frozen?, h]
theorem Blk.new (w : World) (t : TypeId) (cs : Array Value) : Blk (w.alloc (.cells cs t)) w.heap.size t cs := heap_alloc_new w _
theorem Blk.drew (h : Blk w g t cs) : Blk w.drew g t cs := h
theorem Blk.alloc (h : Blk w g t cs) (o : Obj) : Blk (w.alloc o) g t cs := (Below.heap_alloc w o g h.lt).trans h
theorem Blk.grown {row : Option Nat} (h : Blk w g t cs) (hb : w.grownBy w' row) (hg : some g ≠ row) : Blk w' g t cs := (hb.block g h.lt hg).trans h
end
theorem zla {base : Nat} {e : TypeId} {size n : Nat} {v : Value} {xs : List Value} {w w' : World} (hown : w.ownsRow base e size v n xs) (hb : base <= w.heap.size) (hg : w.grownBy w' v.ownBlock) : Below base w w' :=
 (Below.refl _ _).grown hg hb fun k hk => (hown.lt k hk).1
theorem zjv {P : Program} {ops : Array Oper} {rest : List Oper} {o : Oper} {a : Act} {Q : Exit -> Act -> World -> Prop} (wr : World) (hgd : o.guard = none) (s x : Operand) (t : TypeId)
   (ho : o.op = .call { callee := .builtin .append, args := #[s, x], argTypes := #[t, t] })
   (base : Nat) (e : TypeId) (z : Value) (bytes : Nat) (ht : P.underlying t = some (.slice e)) (hinfo : (P.info? e).map (fun i => (i.zero, i.size, i.bytes)) = some (some z, 1, bytes)) (hz1 : z.cells.size = 1)
   (v : Value) (n : Nat) (xs : List Value) (hs : a.eval s = v) (hown : wr.ownsRow base e 1 v n xs)
   (c : Value) (h1 : c.oneCell' = true) (hx : a.eval x = .slice (some ⟨wr.heap.size, 0, none⟩) 1 1)
   (hbytes : (n + 1) * bytes <= 140737488355328) (hn : n < 9223372036854775807) (hbase : base <= wr.heap.size)
   (h : ∀ v' w', w'.ownsRow base e 1 v' (n + 1) (xs ++ [c]) -> Below base wr w' -> wpList P ops Q rest (a.put o.dst v') w') : wpList P ops Q (o :: rest) a (wr.alloc (.cells #[c] e)) := by
 obtain ⟨i, hi, hzz⟩ := Option.map_eq_some_iff.1 hinfo
 simp only [Prod.mk.injEq] at hzz
 obtain ⟨hz, hsz, hby⟩ := hzz
 have hown' := hown.alloc (.cells #[c] e)
 refine wpList_append_own _ hgd s x t ho base e i z 1 bytes ht hi hz hsz hby hz1 (by decide) v n xs hs hown' ⟨wr.heap.size, 0, none⟩ 1 1 [c] hx rfl ?_ ?_ ?_ hbytes ?_ ?_
 · intro j u hj
   match j, hj with
   | 0, hj =>
     simp at hj; subst hj
     rw [zhw, cell_of_row _ _ _ _ _ _ (heap_alloc_new wr _)]; rfl
 · intro u hu
   simp at hu; subst hu; exact h1
 · unfold maxLen; omega
 · simp; omega
 · intro v' w' ho' hg _
   exact h v' w' ho' (((Below.refl _ _).alloc hbase _).trans (zla hown' (by simp; omega) hg))
theorem zvw {P : Program} {src dst e : TypeId} (hs : P.underlying src = some (.slice e)) (he : P.underlying e = some (.int .u8)) (hd : P.underlying dst = some .string) {w : World} {base n : Nat} {v : Value} (l : List UInt8)
   (h : w.ownsRow base e 1 v n (l.map zlb)) : (convert src dst v).run P w = .ok (.string ⟨l.toArray⟩) w := by
 rcases h.2 with ⟨rfl, rfl⟩ | ⟨g, cap, cur, rfl, _, hh, hnc, _, hsz, hx⟩
 · have hl : l = [] := by have := h.1; simpa using this
   subst hl
   rw [run_convert_bytes_string w src dst e none 0 0 hs he hd]
   simp [Conv.bytesToString]; rfl
 · have hl : l.length = n := by have := h.1; simpa using this
   subst hl
   refine run_convert_bytes_back w src dst e _ cap l hs he hd fun j hj => ?_
   have := h.cells (g := g) rfl j (zlb l[j]) (by simp [hj])
   exact this
theorem zxz {a b : List UInt8} (h : a = b) : Ending.returned (.string ⟨a.toArray⟩) = .returned (.string ⟨b.toArray⟩) := by rw [h]
theorem zgk {P : Program} {a : Act} {w : World} {Q : Exit -> Act -> World -> Prop} {c rest : Code} (l : Nat) (J : Act -> World -> Prop) (μ : Act -> World -> Nat) (hf : findLabel c l = some (.seq .skip rest))
   (pass : ∀ a w, J a w -> rest.wp P (Exit.jump l (fun a' w' => J a' w' /\ μ a' w' < μ a w) Q) a w)
   (first : Hid (∀ a w, J a w -> rest.wp P (Exit.jump l J Q) a w) -> c.wp P (Exit.jump l J Q) a w) : (Code.scope c).wp P Q a w := by
 refine wp_scope_jumps l J μ hf (first fun a w hJ => Code.wp_mono (fun e a' w' hq => ?_) (pass a w hJ)) fun a w hJ => wp_seq (wp_skip (pass a w hJ))
 cases e <;> first | exact hq | exact ⟨hq.1, hq.2.1⟩
section
variable {l : Nat} {J : Act -> World -> Prop} {Q : Exit -> Act -> World -> Prop} {a : Act} {w : World}
@[go_sem] theorem jump_normal : Exit.jump l J Q .normal a w = Q .normal a w := rfl
@[go_sem] theorem jump_exit (id : Nat) : Exit.jump l J Q (.exit id) a w = Q (.exit id) a w := rfl
@[go_sem] theorem jump_ret : Exit.jump l J Q .ret a w = Q .ret a w := rfl
@[go_sem] theorem jump_panic (ch : List PanicEntry) : Exit.jump l J Q (.panic ch) a w = Q (.panic ch) a w := rfl
end
section
variable {H : Type} {enc : TypeId × Value -> H} {P : Program}
theorem zn3 {f : Func} {s : ChangeSpec} {apart fresh handsOn again : Bool} {W W' : World} {args : Array Value} {v : Value} {ds gs : List (DataW H)} {before pa pv : List MemPlace}
   (hW : DataW.Whole enc P f.params.toList s.vars apart W args.toList ds gs before)
   (hres : ∀ (b : Nat) (sp : Nat -> Bool) (hd : Bool), DataW.TrodAll enc P W' b sp hd f.resultTypes.toList (v.resultList f.resultTypes.size) (s.fn H (ds ++ gs)).results [])
   (hargs : ∀ sp : Nat -> Bool, (∀ p ∈ before, sp p.block = true) -> DataW.TrodAll enc P W' 0 sp true f.params.toList args.toList (s.fn H (ds ++ gs)).args pa)
   (hvars : ∀ sp : Nat -> Bool, (∀ p ∈ before, sp p.block = true) -> DataW.TrodVars enc P W' sp s.vars (s.fn H (ds ++ gs)).vars pv)
   (hps : before = pa ++ pv) (hb : Below W.heap.size W W')
   (hok : ∀ (j : Nat) (t : TypeId) (r : Value), f.resultTypes[j]? = some t -> (v.resultList f.resultTypes.size)[j]? = some r -> Value.okWide P W' .any 0 t r) :
   s.post enc P f apart fresh handsOn again W args v W' := by
 have hlt : ∀ p ∈ before, p.block < W.heap.size := fun p hp => hW.lt p hp
 have hold : ∀ p ∈ before, (fun b => decide (b < W.heap.size)) p.block = true := fun p hp => by simpa using hlt p hp
 refine ⟨ds, gs, before, [], pa, pv, hW, hres _ _ _, hargs _ hold, hvars _ hold, World.keptBut_mono (fun p hp => ⟨hp, ?_⟩) (hb.frame (· ∈ before)), fun _ => ?_⟩
 · rw [hps, List.mem_append] at hp
   exact Or.inr hp
 · obtain ⟨_, _, _, _, _, hz, hn⟩ := hW
   refine ⟨hok, _, _, ([] ++ pa) ++ pv, ⟨[] ++ pa, pv, trodAll_append (hargs _ (fun _ _ => rfl)) (hres _ _ _), hvars _ (fun _ _ => rfl), rfl, ?_, ?_⟩, ?_⟩
   · intro b off hp
     have hin : MemPlace.cell b off ∈ before := by rw [hps]; simpa using hp
     rw [hb.frozen (hlt _ hin)]
     exact hz b off hin
   · intro ha
     have := hn ha
     rw [hps] at this
     simpa using this
   · intro p hp _
     rw [hps]
     simpa using hp
theorem zh2 (hl : laidOutB P = true) {W W' : World} (hb : Below W.heap.size W W') {sp : Nat -> Bool} :
   ∀ {ts : List TypeId} {vs : List Value} {ds : List (DataW H)} {ps : List MemPlace}, (∀ t ∈ ts, P.readableRec t = true /\ t < P.types.size) ->
   DataW.TrodAll enc P W 0 (fun _ => true) true ts vs ds ps -> (∀ x ∈ ps, x.block < W.heap.size) -> (∀ x ∈ ps, sp x.block = true) -> DataW.TrodAll enc P W' 0 sp true ts vs ds ps
 | [], [], [], _, _, h, _, _ => h
 | _ :: _, _ :: _, _ :: _, _, hr, ⟨p, q, h1, h2, e⟩, hlt, hs =>
   ⟨p, q, WideElems.Trod_stays hl (hr _ (List.mem_cons.2 (Or.inl rfl))).1 (hr _ (List.mem_cons.2 (Or.inl rfl))).2 h1
       (fun x hx => hb.same (hlt x (by rw [e]; exact List.mem_append_left _ hx))) (fun x hx => hs x (by rw [e]; exact List.mem_append_left _ hx)),
     zh2 hl hb (fun t ht => hr t (List.mem_cons.2 (Or.inr ht))) h2 (fun x hx => hlt x (by rw [e]; exact List.mem_append_right _ hx)) (fun x hx => hs x (by rw [e]; exact List.mem_append_right _ hx)), e⟩
theorem post_law {f : Func} {s : ChangeSpec} {apart fresh handsOn again : Bool} {W W' : World} {args : Array Value} {ds : List (DataW H)} {before : List MemPlace} {tb : TypeId}
   (hl : laidOutB P = true) (hr : (f.params.toList.all fun t => P.readableRec t && decide (t < P.types.size)) = true) (hbt : f.resultTypes = #[tb]) (hub : P.underlying tb = some .bool) (hsv : s.vars = [])
   (hW : DataW.Whole enc P f.params.toList s.vars apart W args.toList ds [] before)
   (hfn : s.fn H (ds ++ []) = { results := [.lit (.bool true)], args := ds }) (hb : Below W.heap.size W W') :
   s.post enc P f apart fresh handsOn again W args (.bool true) W' := by
 have hlt : ∀ p ∈ before, p.block < W.heap.size := fun p hp => hW.lt p hp
 obtain ⟨p, q, hA, hV, hpq, _, _⟩ := id hW
 rw [hsv] at hV
 have hq : q = [] := hV
 subst hq
 rw [List.append_nil] at hpq
 subst hpq
 refine zn3 (pa := before) (pv := []) hW ?_ ?_ ?_ (by simp) hb ?_
 · intro _ _ _
   rw [hfn, hbt]
   exact trodAll_mk1 (shut_bool hub true)
 · intro sp hsp
   rw [hfn]
   exact zh2 hl hb (fun t ht => by simpa using List.all_eq_true.1 hr t ht) hA hlt hsp
 · intro sp _
   rw [hfn, hsv]
   rfl
 · exact ok_one hbt rfl (okWide_bool_mk hub true)
end
end Go.Proofs.YtlphgephdhadhaaGreat
namespace Go.Proofs.YtlphgephdhadhaaGreat
open Go.RowKit
theorem i5 : (Tryz.prog.info? 5).map (fun i => (i.zero, i.size, i.bytes)) = some (some (.int .u8 0), 1, 1) := by kernel_rfl
def cl8 (k : Int) : Nat := (min (max k 0) 8).toNat
def zyb (n : Nat) : Nat -> List UInt8
 | 0 => []
 | i+1 => UInt8.ofNat (n / 256^i) :: zyb n i
theorem ynk (k : Int) : cl8 k <= 8 := by unfold cl8; omega
theorem zk8 (n c : Nat) : (zyb n c).length = c := by induction c <;> simp_all [zyb]
theorem yd9 (n c t : Nat) (h : t < (zyb n c).length) : (zyb n c)[t] = UInt8.ofNat (n / 256 ^ (c - 1 - t)) := by
 induction c generalizing t with
 | zero => simp [zyb] at h
 | succ c ih =>
   rcases t with _ | t
   · simp [zyb]
   · simp only [zyb, List.getElem_cons_succ]
     rw [ih]
     congr 3; omega
set_option maxRecDepth 100000 in
set_option maxHeartbeats 400000 in
theorem yi3 (n : Nat) (k : Int) (w : World) (_hn : n < 18446744073709551616) :
   Calls Tryz.prog 79 #[.int .u64 n, .int .i64 k] w fun e w' => e = .returned (.string ⟨(zyb n (cl8 k)).toArray⟩) /\ Below w.heap.size w w' := by
 have h8 := ynk k
 have hmk := fun W => run_make_row' (P := Tryz.prog) 79 5 (.int .u8 0) 1 Tryz.underlying79 i5 rfl .i64 .i64 (cl8 k) (by omega) (by omega) W
 go_enter Tryz.func79, Tryz.ntmps79
 go_upto_region 1 with (fail)
 go_cut [1] (fun v wx => v = .int .i64 (cl8 k) /\ w = wx)
 case first =>
   go_wp2
   all_goals (go_meet; exact ⟨by unfold cl8; go_num, rfl⟩)
 case rest =>
   obtain ⟨rfl, rfl⟩ := hcut
   generalize hc : cl8 k = c at *
   have Hc := Lib.hid hc
   clear hc
   go_wp2
   go_loopw [0, 6] (fun m i wr => ∃ j x : Nat, j <= c /\ i = .int .i64 ((j : Int) - 1) /\ m = .int .u64 (x : Int) /\ Hid (x = n / 256 ^ (c - j)) /\
      wr.rowIs w.heap.size 5 c (fun t => if t < j then .int .u8 0 else zlb (UInt8.ofNat (n / 256 ^ (c - 1 - t)))) /\ Below w.heap.size w wr) (fun _ i _ => (intOf i + 1).toNat)
   case atStart =>
     refine ⟨c, n, by omega, by simp, by simp, Lib.hid (by simp), ?_, ?_⟩
     · exact (World.rowIs_made w (.int .u8 0) c 5).congr (fun i hi => by simp [hi])
     · exact (Below.refl _ _).alloc (Nat.le_refl _) _
   case round =>
     obtain ⟨j, x, hj, rfl, rfl, hx, hrow, hb⟩ := hrel
     rcases j with _ | j
     · have hconv := fun cc => yf9 (P := Tryz.prog) (src := 79) (dst := 9) (cap := cc) (zyb n c) Tryz.underlying79 Tryz.underlying5 Tryz.underlying9 hrow (zk8 n c) (fun i hi => by simp [yd9])
       go_wp2
       go_ret
       exact ⟨zxz (by rw [Hc.out]), hb⟩
     · have hc := hrow.cell (i := j) (by omega)
       have hf := hrow.frozen j
       have hs := hrow.set j (.int .u8 ((x : Int) % 256))
       have hB := hb.setCell (p := ⟨w.heap.size, j, none⟩) (Nat.le_refl _) (.int .u8 ((x : Int) % 256))
       have h0 : ((j + 1 : Nat) : Int) - 1 = j := by omega
       rw [h0]
       simp only [Nat.lt_succ_self, if_true] at hc
       clear hrow hb h0
       go_wp2
       go_roundw
       case rel =>
         refine ⟨j, x / 256, by omega, rfl, rfl, Lib.hid ?_, hs.congr fun t ht => ?_, hB⟩
         · rw [hx.out, Nat.div_div_eq_div_mul, <- Nat.pow_succ]; congr 2; omega
         · by_cases h1 : t = j
           · subst h1; rw [if_pos rfl, if_neg (by omega), zgy, hx.out, show c - (t + 1) = c - 1 - t by omega]
           · rw [if_neg h1]
             by_cases h2 : t < j
             · rw [if_pos h2, if_pos (by omega)]
             · rw [if_neg h2, if_neg (by omega)]
       case measure => simp [intOf] <;> omega
def zwf (l : List UInt8) : Nat := l.foldl (fun n b => n * 256 + b.toNat) 0
theorem zps (l : List UInt8) (b : UInt8) : zwf (l ++ [b]) = zwf l * 256 + b.toNat := by simp [zwf]
theorem zkw (l : List UInt8) (k : Nat) (h : k < l.length) : zwf (l.take (k + 1)) = zwf (l.take k) * 256 + l[k].toNat := by
 rw [List.take_succ_eq_append_getElem h, zps]
theorem yjh (l : List UInt8) : zwf l < 256 ^ l.length := by
 rw [<- List.reverse_reverse l]
 induction l.reverse with
 | nil => simp [zwf]
 | cons b l ih =>
   rw [List.reverse_cons, zps, List.length_append, List.length_singleton, Nat.pow_succ]
   have := b.toNat_lt
   omega
theorem yeu (l : List UInt8) (k : Nat) (h : k < l.length) (h8 : l.length <= 8) : zwf (l.take k) < 72057594037927936 := by
 have h1 := yjh (l.take k)
 have h2 : (l.take k).length <= 7 := by rw [List.length_take]; omega
 have h3 : 256 ^ (l.take k).length <= 256 ^ 7 := Nat.pow_le_pow_right (by omega) h2
 omega
theorem yi7 (x : Nat) (b : UInt8) (h : x < 72057594037927936) : bits .or .u64 ((x : Int) * 256) (b.toNat : Int) = ((x * 256 + b.toNat : Nat) : Int) := by
 have hb := b.toNat_lt
 have := u64_or_nat (x * 256) b.toNat (by omega) (by omega)
 rw [nat_join 8 (x * 256) b.toNat (by omega) (by omega)] at this
 rw [<- this]; congr 1
set_option maxRecDepth 100000 in
set_option maxHeartbeats 400000 in
theorem yjg (l : List UInt8) (w : World) (h1 : 1 <= l.length) (h8 : l.length <= 8) :
   Calls Tryz.prog 114 #[.string ⟨l.toArray⟩] w fun e w' => e = .returned (.tuple #[.int .u64 (zwf l), .int .i64 0]) /\ w = w' := by
 have hne : (l == []) = false := by cases l <;> simp_all
 have hne' : l ≠ [] := by intro h; simp [h] at h1
 go_enter Tryz.func114, Tryz.ntmps114
 go_wp2
 refine zgk 0 (fun a' w' => w = w' /\ ∃ (k x : Nat), Hid (x = zwf (l.take k)) /\ k < l.length /\ x < 72057594037927936 /\ ∃ u1 u2 u3 u6 u7 u8 u9 u10 u11 u12 u13 u14 u15 u16 u17 u18 u19 u20 u21 u22 u23 u24 : Value, a' = ⟨#[.string ⟨l.toArray⟩, u1, u2, u3, .int .u64 (x : Int), .int .i64 (k : Int), u6, u7, u8, u9, u10, u11, u12, u13, u14, u15, u16, u17, u18, u19, u20, u21, u22, u23, u24], []⟩) (fun a' _ => l.length - (intOf (a'.tmps.getD 5 undef)).toNat) rfl ?_ ?_
 · rintro a' w' ⟨rfl, k, x, hx, hk, hx7, u1, u2, u3, u6, u7, u8, u9, u10, u11, u12, u13, u14, u15, u16, u17, u18, u19, u20, u21, u22, u23, u24, rfl⟩
   have hor := yi7 x l[k] hx7
   go_wp2
   · go_step3
     exact ⟨rfl, ⟨rfl, k + 1, x * 256 + l[k].toNat, Lib.hid (by rw [zkw l k hk, hx.out]), by omega, by have := yeu l (k + 1) (by omega) h8; rw [zkw l k hk, <- hx.out] at this; exact this, _, _, _, _, _, _, _, _, _, _, _, _, _, _, _, _, _, _, _, _, _, _, by go_num⟩, by simp [intOf] <;> omega⟩
   · go_ret2
     refine ⟨?_, rfl⟩
     have : zwf l = x * 256 + l[k].toNat := by rw [hx.out, <- zkw l k hk, List.take_of_length_le (by omega)]
     rw [this]; rfl
 · intro hP
   go_wp2
   go_step3
   simp only [Exit.then]
   apply_assumption
   exact hP.out _ _ ⟨rfl, 0, 0, Lib.hid rfl, by omega, by omega, _, _, _, _, _, _, _, _, _, _, _, _, _, _, _, _, _, _, _, _, _, _, rfl⟩
def zdg (n : Nat) : List UInt8 := if n < 128 then [UInt8.ofNat n] else UInt8.ofNat (n % 128 + 128) :: zdg (n / 128)
termination_by n
decreasing_by omega
theorem zbw {n : Nat} (h : n < 128) : zdg n = [UInt8.ofNat n] := by rw [zdg, if_pos h]
theorem zg8 {n : Nat} (h : 128 <= n) : zdg n = UInt8.ofNat (n % 128 + 128) :: zdg (n / 128) := by rw [zdg, if_neg (by omega)]
theorem ypi (x : Nat) : bits .or .u8 ((x : Int) % 256) 128 = (x : Int) % 128 + 128 := by
 have h := u8_or_nat (x % 256) 128 (by omega) (by omega)
 have h2 : x % 256 ||| 128 = x % 128 + 128 := by
   have e1 : x % 256 = x % 128 + x / 128 % 2 * 128 := by omega
   have h3 : x / 128 % 2 = 0 \/ x / 128 % 2 = 1 := by omega
   have j1 : ∀ y, y < 128 -> 128 ||| y = 128 + y := fun y hy => nat_join 7 128 y (by decide) hy
   have e2 : ∀ y, y < 128 -> (y + 128) ||| 128 = y + 128 := fun y hy => by
     rw [Nat.add_comm y 128, <- j1 y hy, Nat.or_comm 128 y, Nat.or_assoc, Nat.or_self]
   rcases h3 with h3 | h3
   · rw [e1, h3, Nat.or_comm]; simp only [Nat.zero_mul, Nat.add_zero]; rw [j1 _ (by omega)]; omega
   · rw [e1, h3, Nat.one_mul, e2 _ (by omega)]
 rw [h2] at h
 have e : (((x % 256 : Nat) : Int)) = (x : Int) % 256 := by omega
 rw [e] at h
 rw [show ((128 : Nat) : Int) = 128 from rfl] at h
 rw [h]; omega
set_option maxRecDepth 100000 in
set_option maxHeartbeats 400000 in
theorem zx5 (n : Nat) (w : World) (hn : n < 18446744073709551616) :
   Calls Tryz.prog 70 #[.int .u64 n] w fun e w' => e = .returned (.string ⟨(zdg n).toArray⟩) /\ Below w.heap.size w w' := by
 go_enter Tryz.func70, Tryz.ntmps70
 go_wp2
 refine zgk 0 (fun a' w' => Below w.heap.size w w' /\ ∃ (x k : Nat) (v : Value) (pre : List UInt8), Hid (pre ++ zdg x = zdg n) /\ x < 18446744073709551616 /\ k <= 10 /\ Hid (x * 128 ^ k <= n) /\ w'.ownsRow w.heap.size 5 1 v k (pre.map zlb) /\ ∃ u1 u2 u4 u5 u6 u7 u8 u9 u10 u11 u12 u13 u14 u15 u16 u17 u18 u19 : Value, a' = ⟨#[.int .u64 (x : Int), u1, u2, v, u4, u5, u6, u7, u8, u9, u10, u11, u12, u13, u14, u15, u16, u17, u18, u19], []⟩) (fun a' _ => (intOf (a'.tmps.getD 0 undef)).toNat) rfl ?_ ?_
 · rintro a' wr ⟨hb, x, k, v, pre, hpre, hx, hk, hxk, hown, u1, u2, u4, u5, u6, u7, u8, u9, u10, u11, u12, u13, u14, u15, u16, u17, u18, u19, rfl⟩
   have hor := ypi x
   have hsz := hb.size
   by_cases hlt : x < 128
   · have hx8 : ∀ w1 : World, ∀ v1, w1.ownsRow w.heap.size 5 1 v1 (k + 1) (List.map zlb pre ++ [Value.int .u8 (x : Int)]) -> (convert 79 9 v1).run Tryz.prog w1 = .ok (.string ⟨(pre ++ [UInt8.ofNat x]).toArray⟩) w1 := fun w1 v1 h =>
       zvw (P := Tryz.prog) (src := 79) (dst := 9) (e := 5) Tryz.underlying79 Tryz.underlying5 Tryz.underlying9 (pre ++ [UInt8.ofNat x]) (by
         have e : (Value.int .u8 (x : Int)) = zlb (UInt8.ofNat x) := by rw [zgy]; go_num
         rw [List.map_append, List.map_singleton, <- e]; exact h)
     have Hx8 := Lib.hid hx8
     clear hx8
     go_wp2_with (at_builtin; refine zjv _ rfl _ _ 79 rfl w.heap.size 5 (.int .u8 0) 1 Tryz.underlying79 i5 rfl _ _ _ rfl hown _ rfl rfl (by omega) (by omega) hsz ?_; intro v1 w1 hown1 hb1; have hcv := Hx8.out w1 v1 hown1; clear hown1 hown hor)
     go_ret
     exact ⟨zxz (by rw [<- hpre.out, zbw hlt]), hb.trans (by assumption)⟩
   · go_wp2_with (at_builtin; refine zjv _ rfl _ _ 79 rfl w.heap.size 5 (.int .u8 0) 1 Tryz.underlying79 i5 rfl _ _ _ rfl hown _ rfl rfl (by omega) (by omega) hsz ?_; intro v1 w1 hown1 hb1)
     go_step3
     have h128 : 128 * 128 ^ k <= n := Nat.le_trans (Nat.mul_le_mul_right _ (by omega)) hxk.out
     have hk9 : k + 1 <= 10 := by
       refine Decidable.byContradiction fun h => ?_
       have : 128 ^ 10 <= 128 ^ k := Nat.pow_le_pow_right (by decide) (by omega)
       have h3 : (128 : Nat) ^ 10 = 1180591620717411303424 := by decide
       omega
     exact ⟨rfl, ⟨hb.trans hb1, x / 128, k + 1, v1, pre ++ [UInt8.ofNat (x % 128 + 128)], Lib.hid (by rw [List.append_assoc, <- hpre.out, zg8 (n := x) (by omega)]; rfl), by omega, hk9, Lib.hid (by
       rw [Nat.pow_succ]; have h4 : x / 128 * (128 ^ k * 128) <= x * 128 ^ k := by
         rw [Nat.mul_comm (128 ^ k) 128, <- Nat.mul_assoc]; exact Nat.mul_le_mul_right _ (by omega)
       exact Nat.le_trans h4 hxk.out), by
       rw [List.map_append, List.map_singleton, zgy]; rw [show (((x % 128 + 128 : Nat) : Int) % 256) = (x : Int) % 128 + 128 by omega]; exact hown1, _, _, _, _, _, _, _, _, _, _, _, _, _, _, _, _, _, _, rfl⟩, by simp [intOf]; omega⟩
 · intro hP
   go_wp2
   go_step3
   simp only [Exit.then]
   apply_assumption
   exact hP.out _ _ ⟨Below.refl _ _, n, 0, _, [], Lib.hid rfl, hn, by omega, Lib.hid (by simp), World.ownsRow_nil _ _ _ _, _, _, _, _, _, _, _, _, _, _, _, _, _, _, _, _, _, _, rfl⟩
end Go.Proofs.YtlphgephdhadhaaGreat
namespace Go.Proofs.YtlphgephdhadhaaGreat
open Go.RowKit
def yc0 (w : World) (g : Nat) (ps : List (List UInt8)) : Prop := ∀ j (h : j < ps.length), w.cell? ⟨g, j, none⟩ = some (.string ⟨ps[j].toArray⟩)
def zwg (ps : List (List UInt8)) : List UInt8 := ps.flatten
end Go.Proofs.YtlphgephdhadhaaGreat
namespace Go.Proofs.YtlphgephdhadhaaGreat
namespace Sy
open Go Go.RowKit
set_option maxRecDepth 100000
def zya (e n : Int) : List UInt8 := zyb e.toNat (cl8 n)
def getZ (l : List UInt8) : Int := zwf l
def yd8 (e n : Int) : Prop := 0 <= e /\ e < 18446744073709551616 /\ -9223372036854775808 <= n /\ n <= 9223372036854775807
def yet (l : List UInt8) : Prop := 1 <= l.length /\ l.length <= 8
def upto (n : Nat) (l : List UInt8) : Prop := l.length <= n
def zva (L : za8) : zcu := (79, fun xs => match xs with | [.int .u64 e, .int .i64 n] => some (L2 L yd8 e n, .str (L2 L zya e n)) | _ => none)
def yjf (L : za8) : zcu := (114, fun xs => match xs with | [.str l] => some (L yet l, .tup [.int .u64 (L getZ l), .int .i64 0]) | _ => none)
theorem yle {x y : AV} {v u : Value} (hx : ∀ h D, R h D zap x v) (hy : ∀ h D, R h D zap y u) : ∀ h D, R h D zap (.tup [x, y]) (.tuple #[v, u]) := by
 intro h D
 refine .tup _ _ rfl ?_
 intro i z t hz ht
 match i with
 | 0 => simp at hz ht; subst hz ht; exact hx h D
 | 1 => simp at hz ht; subst hz ht; exact hy h D
 | i + 2 => simp at hz
theorem ymy (k : IntKind) (n : Int) : ∀ h D, R h D zap (.int k n) (.int k n) := fun _ _ => .int k n
theorem zz0 {e : Int} (h : 0 <= e) : ∃ n : Nat, e = n := ⟨e.toNat, by omega⟩
theorem zjc : zd7 Tryz.prog (zva std) := by
 intro xs p r h hp
 dsimp only [zva] at h |-
 split at h <;> cases h
 rename_i e n
 obtain ⟨h0, h1, h2, h3⟩ : yd8 e n := hp
 obtain ⟨k, rfl⟩ := zz0 h0
 exact ze4 (fn := Tryz.f79) rfl rfl (by kernel_rfl) (ynx (zh3 _ _) (zh3 _ _)) (fun h D => zx0 h D _ _) (fun w => yi3 k n w (by omega))
theorem yer : zd7 Tryz.prog (yjf std) := by
 intro xs p r h hp
 dsimp only [yjf] at h |-
 split at h <;> cases h
 rename_i l
 obtain ⟨h1, h8⟩ : yet l := hp
 exact ze4 (fn := Tryz.f114) rfl rfl (by kernel_rfl) (ykk (zjz _)) (yle (ymy _ _) (ymy _ _)) (zoa fun w => yjg l w h1 h8)
end Sy
end Go.Proofs.YtlphgephdhadhaaGreat
namespace Go.Proofs.YtlphgephdhadhaaGreat
namespace Sy
open Go Go.RowKit
set_option maxRecDepth 100000
set_option linter.unusedSimpArgs false
set_option linter.unusedVariables false
abbrev Pr := { l : List Int // l.length = 16 }
structure Le where
 p : Pr
 d : Int
 h : Bool
 deriving DecidableEq
def zgm (p : Pr) : Prop := ∀ x ∈ p.1, 0 <= x /\ x < 256
def zow (a : Nat) (p : List Int) : Nat := p.foldl (fun a x => 256 * a + x.toNat) a
def zli (p : List Int) : Nat := zow 0 p
theorem zi6 : ∀ (p : List Int) (a : Nat), zow a p = a * 256 ^ p.length + zli p
 | [], a => by simp [zow, zli]
 | x :: p, a => by
   have h1 := zi6 p (256 * a + x.toNat)
   have h2 := zi6 p (256 * 0 + x.toNat)
   have e1 : zow a (x :: p) = zow (256 * a + x.toNat) p := rfl
   have e2 : zli (x :: p) = zow (256 * 0 + x.toNat) p := rfl
   rw [e1, e2, h1, h2, List.length_cons, Nat.pow_succ, Nat.add_mul, Nat.add_mul, Nat.mul_comm 256 a, Nat.mul_assoc, Nat.mul_comm (256 ^ p.length) 256]
   simp only [Nat.mul_zero, Nat.zero_mul]
   omega
theorem zfz (x : Int) (p : List Int) : zli (x :: p) = x.toNat * 256 ^ p.length + zli p := by
 have e2 : zli (x :: p) = zow (256 * 0 + x.toNat) p := rfl
 rw [e2, zi6, Nat.mul_zero, Nat.zero_add]
theorem zkr : ∀ {p : List Int}, (∀ x ∈ p, 0 <= x /\ x < 256) -> zli p < 256 ^ p.length
 | [], _ => by simp [zli, zow]
 | x :: p, h => by
   have ih := zkr (p := p) (fun y hy => h y (List.mem_cons_of_mem _ hy))
   have hx := h x (by simp)
   rw [zfz, List.length_cons, Nat.pow_succ, Nat.mul_comm (256 ^ p.length)]
   have h1 : (x.toNat + 1) * 256 ^ p.length <= 256 * 256 ^ p.length := Nat.mul_le_mul_right _ (by omega)
   rw [Nat.add_mul, Nat.one_mul] at h1
   omega
theorem zty : ∀ {p q : List Int}, p.length = q.length -> (∀ x ∈ p, 0 <= x /\ x < 256) -> (∀ x ∈ q, 0 <= x /\ x < 256) -> zli p = zli q -> p = q
 | [], [], _, _, _, _ => rfl
 | x :: p, y :: q, hl, hp, hq, h => by
   have hl : p.length = q.length := by simpa using hl
   have h1 := zkr (p := p) (fun y hy => hp y (List.mem_cons_of_mem _ hy))
   have h2 := zkr (p := q) (fun y hy => hq y (List.mem_cons_of_mem _ hy))
   have hx := hp x (by simp)
   have hy := hq y (by simp)
   rw [zfz, zfz, <- hl] at h
   rw [<- hl] at h2
   have e : x.toNat = y.toNat := by
     rcases Nat.lt_trichotomy x.toNat y.toNat with h3 | h3 | h3
     · have h4 : (x.toNat + 1) * 256 ^ p.length <= y.toNat * 256 ^ p.length := Nat.mul_le_mul_right _ (by omega)
       rw [Nat.add_mul, Nat.one_mul] at h4
       omega
     · exact h3
     · have h4 : (y.toNat + 1) * 256 ^ p.length <= x.toNat * 256 ^ p.length := Nat.mul_le_mul_right _ (by omega)
       rw [Nat.add_mul, Nat.one_mul] at h4
       omega
   have e' : x = y := by omega
   rw [e] at h
   rw [e', zty hl (fun y hy => hp y (List.mem_cons_of_mem _ hy)) (fun y hy => hq y (List.mem_cons_of_mem _ hy)) (by omega)]
def prN (p : Pr) : Nat := zli p.1
theorem zyg {p q : Pr} (hp : zgm p) (hq : zgm q) (h : prN p = prN q) : p = q := Subtype.ext (zty (by rw [p.2, q.2]) hp hq h)
def prB (p : List Int) : List UInt8 := p.map fun x => UInt8.ofNat x.toNat
theorem ylb {x y : Int} (hx : 0 <= x /\ x < 256) (hy : 0 <= y /\ y < 256) : (UInt8.ofNat x.toNat < UInt8.ofNat y.toNat) = (x < y) := by
 rw [UInt8.lt_iff_toNat_lt, UInt8.toNat_ofNat', UInt8.toNat_ofNat', Nat.mod_eq_of_lt (by omega), Nat.mod_eq_of_lt (by omega)]
 exact propext ⟨fun h => by omega, fun h => by omega⟩
theorem yay : ∀ {p q : List Int}, p.length = q.length -> (∀ x ∈ p, 0 <= x /\ x < 256) -> (∀ x ∈ q, 0 <= x /\ x < 256) ->
   Lib.compareBytes (prB p) (prB q) = if zli p < zli q then -1 else if zli q < zli p then 1 else 0
 | [], [], _, _, _ => rfl
 | x :: p, y :: q, hl, hp, hq => by
   have hl : p.length = q.length := by simpa using hl
   have h1 := zkr (p := p) (fun y hy => hp y (List.mem_cons_of_mem _ hy))
   have h2 := zkr (p := q) (fun y hy => hq y (List.mem_cons_of_mem _ hy))
   have ih := yay hl (fun y hy => hp y (List.mem_cons_of_mem _ hy)) (fun y hy => hq y (List.mem_cons_of_mem _ hy))
   have hx := hp x (by simp)
   have hy := hq y (by simp)
   rw [zfz, zfz, <- hl]
   rw [<- hl] at h2
   show (if UInt8.ofNat x.toNat < UInt8.ofNat y.toNat then (-1 : Int) else if UInt8.ofNat y.toNat < UInt8.ofNat x.toNat then 1 else Lib.compareBytes (prB p) (prB q)) = _
   simp only [ylb hx hy, ylb hy hx]
   rcases Int.lt_trichotomy x y with h3 | h3 | h3
   · have h4 : (x.toNat + 1) * 256 ^ p.length <= y.toNat * 256 ^ p.length := Nat.mul_le_mul_right _ (by omega)
     rw [Nat.add_mul, Nat.one_mul] at h4
     rw [if_pos h3, if_pos (by omega)]
   · subst h3
     rw [if_neg (by omega), if_neg (by omega), ih]
     by_cases h5 : zli p < zli q
     · rw [if_pos h5, if_pos (by omega)]
     · rw [if_neg h5, if_neg (c := x.toNat * 256 ^ p.length + zli p < x.toNat * 256 ^ p.length + zli q) (by omega)]
       by_cases h6 : zli q < zli p
       · rw [if_pos h6, if_pos (by omega)]
       · rw [if_neg h6, if_neg (by omega)]
   · have h4 : (y.toNat + 1) * 256 ^ p.length <= x.toNat * 256 ^ p.length := Nat.mul_le_mul_right _ (by omega)
     rw [Nat.add_mul, Nat.one_mul] at h4
     rw [if_neg (by omega), if_pos h3, if_neg (by omega), if_pos (by omega)]
def kLe (e : Le) : Nat := prN e.p
def zhy (e : Le) : Prop := zgm e.p /\ 0 <= e.d /\ e.d <= 255
structure zd6 (l : List Le) : Prop where
 ris : l.Pairwise fun a b => kLe a < kLe b
 ok : ∀ e ∈ l, zhy e
def zcp (k : Nat) : List Le -> Nat
 | [] => 0
 | e :: l => if kLe e < k then zcp k l + 1 else 0
theorem zkl (k : Nat) : ∀ l, zcp k l <= l.length
 | [] => Nat.le_refl _
 | e :: l => by
   have := zkl k l
   unfold zcp
   split <;> simp <;> omega
theorem zid {k : Nat} : ∀ {l : List Le} {i : Nat} (hi : i < l.length), i < zcp k l -> kLe l[i] < k
 | e :: l, 0, _, h => by
   unfold zcp at h
   split at h
   · assumption
   · omega
 | e :: l, i + 1, hi, h => by
   unfold zcp at h
   split at h
   · exact zid (l := l) (by simpa using hi) (by omega)
   · omega
theorem znh {k : Nat} : ∀ {l : List Le}, l.Pairwise (fun a b => kLe a < kLe b) -> ∀ {i : Nat} (hi : i < l.length), zcp k l <= i -> k <= kLe l[i]
 | e :: l, hr, 0, _, h => by
   unfold zcp at h
   split at h
   · omega
   · simpa using Nat.not_lt.1 (by assumption)
 | e :: l, hr, i + 1, hi, h => by
   have hr := List.pairwise_cons.1 hr
   unfold zcp at h
   split at h
   · exact znh hr.2 (i := i) (by simpa using hi) (by omega)
   · have hi' : i < l.length := by simpa using hi
     have := hr.1 l[i] (List.getElem_mem hi')
     simp only [List.getElem_cons_succ]
     omega
theorem yj0 {a b : Le} (ha : zhy a) (hb : zhy b) (h : kLe a = kLe b) : a.p = b.p := zyg ha.1 hb.1 h
def zbr (p : Pr) (l : List Le) : Bool := l.any fun e => decide (e.p = p)
theorem zgn {l : List Le} {p : Pr} (hl : zd6 l) (hp : zgm p) : zbr p l = true ↔ ∃ h : zcp (prN p) l < l.length, l[zcp (prN p) l].p = p := by
 unfold zbr
 rw [List.any_eq_true]
 constructor
 · rintro ⟨e, he, h⟩
   have h : e.p = p := of_decide_eq_true h
   obtain ⟨i, hi, rfl⟩ := List.getElem_of_mem he
   have hk : kLe l[i] = prN p := by rw [kLe, h]
   have h1 : ¬ i < zcp (prN p) l := fun h2 => by have := zid hi h2; omega
   have h2 : zcp (prN p) l < l.length := by omega
   have h3 := znh hl.ris h2 (Nat.le_refl _)
   by_cases h4 : zcp (prN p) l = i
   · refine ⟨h2, ?_⟩
     simp only [h4]; exact h
   · have := List.pairwise_iff_getElem.1 hl.ris (zcp (prN p) l) i h2 hi (by omega)
     omega
 · rintro ⟨h, e⟩
   exact ⟨_, List.getElem_mem h, decide_eq_true e⟩
theorem ypx {l : List Le} {p : Pr} (hl : zd6 l) (hp : zgm p) (h : zcp (prN p) l < l.length) : (kLe l[zcp (prN p) l] = prN p) ↔ zbr p l = true := by
 rw [zgn hl hp]
 constructor
 · intro e
   exact ⟨h, zyg (hl.ok _ (List.getElem_mem h)).1 hp e⟩
 · rintro ⟨_, e⟩
   rw [kLe, e]
def zb2 (l : List Le) (p : Pr) : Le := match l.find? (fun e => decide (e.p = p)) with
 | some e => e
 | none => ⟨p, 0, false⟩
def zei (i : Nat) (l : List Le) : List Le := l.take i ++ l.drop (i + 1)
def ycb (i : Nat) (e : Le) (l : List Le) : List Le := l.take i ++ e :: l.drop i
def zdl (e : Le) : Bool := decide (0 < e.d) || e.h
def zes (e : Le) (l : List Le) : List Le := if zbr e.p l = true then zei (zcp (kLe e) l) l else l
def zbx (l : List Le) (e : Le) : List Le := if zdl e = true then ycb (zcp (kLe e) l) e (zes e l) else zes e l
theorem yjk {l : List Le} {p : Pr} (hl : zd6 l) (hp : zgm p) (h : zbr p l = true) : ∃ hi : zcp (prN p) l < l.length, zb2 l p = l[zcp (prN p) l] := by
 obtain ⟨hi, e⟩ := (zgn hl hp).1 h
 refine ⟨hi, ?_⟩
 unfold zb2
 have : l.find? (fun e => decide (e.p = p)) = some l[zcp (prN p) l] := by
   rw [List.find?_eq_some_iff_getElem]
   refine ⟨decide_eq_true e, _, hi, rfl, fun j hj => ?_⟩
   have h1 := zid (l := l) (i := j) (by omega) hj
   simp only [Bool.not_eq_eq_eq_not, Bool.not_true, decide_eq_false_iff_not]
   intro h2
   rw [kLe, h2] at h1
   omega
 rw [this]
theorem zrm {l : List Le} {p : Pr} (h : zbr p l = false) : zb2 l p = ⟨p, 0, false⟩ := by
 unfold zb2
 have : l.find? (fun e => decide (e.p = p)) = none := by
   rw [List.find?_eq_none]
   intro e he h2
   unfold zbr at h
   rw [List.any_eq_false] at h
   exact h e he h2
 rw [this]
theorem znj (l : List Le) (p : Pr) : (zb2 l p).p = p := by
 unfold zb2
 split
 · rename_i e h
   have := List.find?_some h
   exact of_decide_eq_true this
 · rfl
theorem zfi {l : List Le} {p : Pr} (hl : zd6 l) (hp : zgm p) : zhy (zb2 l p) := by
 unfold zb2
 split
 · rename_i e h
   exact hl.ok _ (List.mem_of_find?_eq_some h)
 · exact ⟨hp, Int.le_refl _, by show (0 : Int) <= 255; decide⟩
theorem zpe {i : Nat} {l : List Le} {e : Le} (h : e ∈ zei i l) : e ∈ l := by
 unfold zei at h
 rcases List.mem_append.1 h with h | h
 · exact List.mem_of_mem_take h
 · exact List.mem_of_mem_drop h
theorem znk {i : Nat} {l : List Le} (hl : zd6 l) : zd6 (zei i l) := by
 refine ⟨?_, fun e he => hl.ok e (zpe he)⟩
 refine hl.ris.sublist ?_
 unfold zei
 conv => rhs; rw [<- List.take_append_drop i l]
 exact List.Sublist.append (List.Sublist.refl _) (List.drop_sublist_drop_left l (Nat.le_succ i))
theorem zet {i : Nat} {l : List Le} (h : i < l.length) : (zei i l).length + 1 = l.length := by
 unfold zei; simp; omega
theorem ye7 {e : Le} {l : List Le} (hl : zd6 l) : zd6 (zes e l) := by
 unfold zes
 split
 · exact znk hl
 · exact hl
theorem zkb {e : Le} {l : List Le} (hl : zd6 l) (he : zhy e) : (∀ x ∈ (zes e l).take (zcp (kLe e) l), kLe x < kLe e) /\ (∀ x ∈ (zes e l).drop (zcp (kLe e) l), kLe e < kLe x) /\ zcp (kLe e) l <= (zes e l).length := by
 have hlb := zkl (kLe e) l
 unfold zes
 by_cases h : zbr e.p l = true
 · rw [if_pos h]
   obtain ⟨hi, h2⟩ := (zgn hl he.1).1 h
   have hi : zcp (kLe e) l < l.length := hi
   have h2 : l[zcp (kLe e) l].p = e.p := h2
   unfold zei
   refine ⟨?_, ?_, by simp; omega⟩
   · intro x hx
     rw [List.take_append_of_le_length (by simp; omega), List.take_take, Nat.min_self] at hx
     obtain ⟨j, hj, rfl⟩ := List.mem_take_iff_getElem.1 hx
     exact zid (by omega) (by omega)
   · intro x hx
     rw [List.drop_append_of_le_length (by simp; omega), List.drop_eq_nil_of_le (by simp; omega), List.nil_append] at hx
     obtain ⟨j, hj, rfl⟩ := List.mem_drop_iff_getElem.1 hx
     have := List.pairwise_iff_getElem.1 hl.ris (zcp (kLe e) l) (zcp (kLe e) l + 1 + j) hi (by omega) (by omega)
     have h3 : kLe l[zcp (kLe e) l] = kLe e := by rw [kLe, h2]; rfl
     omega
 · rw [if_neg h]
   refine ⟨?_, ?_, hlb⟩
   · intro x hx
     obtain ⟨j, hj, rfl⟩ := List.mem_take_iff_getElem.1 hx
     exact zid (by omega) (by omega)
   · intro x hx
     obtain ⟨j, hj, rfl⟩ := List.mem_drop_iff_getElem.1 hx
     have h3 := znh hl.ris (k := kLe e) (i := zcp (kLe e) l + j) (by omega) (by omega)
     rcases Nat.lt_or_eq_of_le h3 with h4 | h4
     · exact h4
     · exfalso
       apply h
       unfold zbr
       rw [List.any_eq_true]
       exact ⟨_, List.getElem_mem _, decide_eq_true (yj0 (hl.ok _ (List.getElem_mem _)) he h4.symm)⟩
theorem zhg {l : List Le} {e : Le} (hl : zd6 l) (he : zhy e) : zd6 (zbx l e) := by
 obtain ⟨h1, h2, h3⟩ := zkb hl he
 have ho := ye7 (e := e) hl
 unfold zbx
 by_cases hk : zdl e = true
 · rw [if_pos hk]
   unfold ycb
   refine ⟨?_, ?_⟩
   · rw [List.pairwise_append]
     refine ⟨ho.ris.sublist (List.take_sublist _ _), ?_, ?_⟩
     · rw [List.pairwise_cons]
       exact ⟨fun x hx => h2 x hx, ho.ris.sublist (List.drop_sublist _ _)⟩
     · intro a ha b hb
       rcases List.mem_cons.1 hb with rfl | hb
       · exact h1 a ha
       · exact Nat.lt_trans (h1 a ha) (h2 b hb)
   · intro x hx
     rcases List.mem_append.1 hx with hx | hx
     · exact ho.ok x (List.mem_of_mem_take hx)
     · rcases List.mem_cons.1 hx with rfl | hx
       · exact he
       · exact ho.ok x (List.mem_of_mem_drop hx)
 · rw [if_neg hk]; exact ho
theorem zzn {e : Le} {l : List Le} (hl : zd6 l) (he : zhy e) : (zes e l).length + (if zbr e.p l = true then 1 else 0) = l.length := by
 unfold zes
 by_cases h : zbr e.p l = true
 · obtain ⟨hi, _⟩ := (zgn hl he.1).1 h
   rw [if_pos h, if_pos h]; exact zet hi
 · rw [if_neg h, if_neg h]; rfl
theorem zni {i : Nat} {e : Le} {l : List Le} (h : i <= l.length) : (ycb i e l).length = l.length + 1 := by
 unfold ycb; simp; omega
theorem zzm {l : List Le} {e : Le} (hl : zd6 l) (he : zhy e) : (zbx l e).length <= l.length + (if zbr e.p l = true then 0 else 1) /\ (zdl e = false -> (zbx l e).length <= l.length) := by
 have h1 := zzn hl he
 have h3 := (zkb hl he).2.2
 unfold zbx
 by_cases hk : zdl e = true
 · rw [if_pos hk, zni h3]
   refine ⟨?_, fun h => by rw [hk] at h; cases h⟩
   by_cases h : zbr e.p l = true
   · rw [if_pos h] at h1 |-; omega
   · rw [if_neg h] at h1 |-; omega
 · rw [if_neg hk]
   refine ⟨by omega, fun _ => by omega⟩
theorem yij {e x : Le} {l : List Le} (hl : zd6 l) (he : zhy e) : x ∈ zes e l ↔ x ∈ l /\ x.p ≠ e.p := by
 obtain ⟨h1, h2, h3⟩ := zkb hl he
 have hne : ∀ x ∈ zes e l, x.p ≠ e.p := by
   intro x hx h
   rw [<- List.take_append_drop (zcp (kLe e) l) (zes e l), List.mem_append] at hx
   have hk : kLe x = kLe e := by rw [kLe, h]; rfl
   rcases hx with hx | hx
   · have := h1 x hx; omega
   · have := h2 x hx; omega
 constructor
 · intro hx
   refine ⟨?_, hne x hx⟩
   unfold zes at hx
   split at hx
   · exact zpe hx
   · exact hx
 · rintro ⟨hx, h⟩
   unfold zes
   split
   · rename_i hh
     obtain ⟨hi, h4⟩ := (zgn hl he.1).1 hh
     have hi : zcp (kLe e) l < l.length := hi
     have h4 : l[zcp (kLe e) l].p = e.p := h4
     unfold zei
     rw [<- List.take_append_drop (zcp (kLe e) l) l, List.drop_eq_getElem_cons hi, List.mem_append, List.mem_cons] at hx
     rw [List.mem_append]
     rcases hx with hx | rfl | hx
     · exact .inl hx
     · exact absurd h4 h
     · exact .inr hx
   · exact hx
theorem zki {e x : Le} {l : List Le} (hl : zd6 l) (he : zhy e) : x ∈ zbx l e ↔ (x ∈ l /\ x.p ≠ e.p) \/ (zdl e = true /\ x = e) := by
 rw [<- yij hl he]
 unfold zbx
 by_cases hk : zdl e = true
 · rw [if_pos hk]
   unfold ycb
   constructor
   · intro h
     rcases List.mem_append.1 h with h | h
     · exact .inl (List.mem_of_mem_take h)
     · rcases List.mem_cons.1 h with rfl | h
       · exact .inr ⟨hk, rfl⟩
       · exact .inl (List.mem_of_mem_drop h)
   · rintro (h | ⟨_, rfl⟩)
     · rw [<- List.take_append_drop (zcp (kLe e) l) (zes e l), List.mem_append] at h
       rw [List.mem_append, List.mem_cons]
       rcases h with h | h
       · exact .inl h
       · exact .inr (.inr h)
     · rw [List.mem_append, List.mem_cons]
       exact .inr (.inl rfl)
 · rw [if_neg hk]
   constructor
   · exact .inl
   · rintro (h | ⟨h, _⟩)
     · exact h
     · exact absurd h hk
theorem ym8 {l : List Le} (hl : zd6 l) {a b : Le} (ha : a ∈ l) (hb : b ∈ l) (h : a.p = b.p) : a = b := by
 obtain ⟨i, hi, rfl⟩ := List.getElem_of_mem ha
 obtain ⟨j, hj, rfl⟩ := List.getElem_of_mem hb
 have hk : kLe l[i] = kLe l[j] := by rw [kLe, h]; rfl
 rcases Nat.lt_trichotomy i j with h1 | h1 | h1
 · have := List.pairwise_iff_getElem.1 hl.ris i j hi hj h1; omega
 · subst h1; rfl
 · have := List.pairwise_iff_getElem.1 hl.ris j i hj hi h1; omega
theorem zrg {l : List Le} (hl : zd6 l) {e : Le} (he : e ∈ l) : zb2 l e.p = e := by
 unfold zb2
 cases h : l.find? (fun x => decide (x.p = e.p)) with
 | some x => exact ym8 hl (List.mem_of_find?_eq_some h) he (of_decide_eq_true (by simpa using List.find?_some h))
 | none =>
   rw [List.find?_eq_none] at h
   exact absurd (decide_eq_true rfl) (h e he)
theorem ya8 {l : List Le} {p : Pr} (h : ∀ e ∈ l, e.p ≠ p) : zb2 l p = ⟨p, 0, false⟩ := by
 refine zrm ?_
 unfold zbr
 rw [List.any_eq_false]
 intro e he h2
 exact h e he (of_decide_eq_true h2)
theorem ya6 {l : List Le} {p : Pr} : zbr p l = true ↔ ∃ e ∈ l, e.p = p := by
 unfold zbr
 rw [List.any_eq_true]
 exact ⟨fun ⟨e, h1, h2⟩ => ⟨e, h1, of_decide_eq_true h2⟩, fun ⟨e, h1, h2⟩ => ⟨e, h1, decide_eq_true h2⟩⟩
theorem zig {l : List Le} {e : Le} {q : Pr} (hl : zd6 l) (he : zhy e) : zb2 (zbx l e) q = if q = e.p then (if zdl e = true then e else ⟨e.p, 0, false⟩) else zb2 l q := by
 have hp := zhg hl he
 by_cases hq : q = e.p
 · rw [if_pos hq, hq]
   by_cases hk : zdl e = true
   · rw [if_pos hk]
     exact zrg hp ((zki hl he).2 (.inr ⟨hk, rfl⟩))
   · rw [if_neg hk]
     refine ya8 fun x hx h => ?_
     rcases (zki hl he).1 hx with ⟨_, h2⟩ | ⟨h2, _⟩
     · exact h2 h
     · exact hk h2
 · rw [if_neg hq]
   cases hh : zbr q l with
   | true =>
     obtain ⟨x, hx, rfl⟩ := ya6.1 hh
     rw [zrg hl hx]
     exact zrg hp ((zki hl he).2 (.inl ⟨hx, hq⟩))
   | false =>
     rw [zrm hh]
     refine ya8 fun x hx h => ?_
     rcases (zki hl he).1 hx with ⟨h2, _⟩ | ⟨_, rfl⟩
     · rw [ya6.2 ⟨x, h2, h⟩] at hh; cases hh
     · exact hq h.symm
def yf5 (e : Le) (k : Int) : Le := ⟨e.p, min (e.d + 1) 255, e.h || decide (k <= min (e.d + 1) 255)⟩
def firstFree (l : List Le) : Nat := l.findIdx fun e => !e.h
def zih (l : List Le) (p : Pr) : Bool := !zbr p l && decide (64 <= l.length)
def zdk (l : List Le) (p : Pr) : List Le := if zih l p = true then zei (firstFree l) l else l
def zda (l : List Le) (p : Pr) (k : Int) : Int := if k < 1 \/ 255 < k then 7 else if zih l p = true /\ ¬ firstFree l < l.length then 17 else 0
def zdf (l : List Le) (p : Pr) (k : Int) : List Le := if zda l p k = 0 then zbx (zdk l p) (yf5 (zb2 l p) k) else []
theorem zin {e : Le} (k : Int) (h : zhy e) : zhy (yf5 e k) := by
 obtain ⟨h1, h2, h3⟩ := h
 exact ⟨h1, by show 0 <= min _ _; omega, by show min _ _ <= 255; omega⟩
theorem zxy {l : List Le} (p : Pr) (hl : zd6 l) : zd6 (zdk l p) := by
 unfold zdk
 split
 · exact znk hl
 · exact hl
theorem yf4 {l : List Le} {p : Pr} (k : Int) (hl : zd6 l) (hp : zgm p) : zd6 (zdf l p k) := by
 unfold zdf
 split
 · exact zhg (zxy p hl) (zin k (zfi hl hp))
 · exact ⟨List.Pairwise.nil, fun e h => by cases h⟩
theorem yaq {l : List Le} {p : Pr} (k : Int) (hl : zd6 l) (hp : zgm p) (h64 : l.length <= 64) : (zdf l p k).length <= 64 := by
 unfold zdf
 split
 · rename_i h
   have h1 := (zzm (zxy p hl) (zin k (zfi hl hp))).1
   have hd : (yf5 (zb2 l p) k).p = p := znj l p
   rw [hd] at h1
   by_cases hf : zih l p = true
   · have hr : zdk l p = zei (firstFree l) l := if_pos hf
     have hlt : firstFree l < l.length := by
       unfold zda at h
       split at h
       · cases h
       · split at h
         · cases h
         · rename_i h2
           exact Classical.byContradiction fun h3 => h2 ⟨hf, h3⟩
     have := zet hlt
     rw [hr] at h1 |-
     have : (if zbr p (zei (firstFree l) l) = true then 0 else 1) <= 1 := by split <;> omega
     omega
   · have hr : zdk l p = l := if_neg hf
     rw [hr] at h1 |-
     unfold zih at hf
     by_cases hh : zbr p l = true
     · rw [if_pos hh] at h1; omega
     · rw [if_neg hh] at h1
       have hh : zbr p l = false := by simpa using hh
       rw [hh] at hf
       simp at hf
       omega
 · simp
end Sy
end Go.Proofs.YtlphgephdhadhaaGreat
namespace Go.Proofs.YtlphgephdhadhaaGreat
namespace Sy
open Go Go.RowKit
set_option linter.unusedVariables false
def DW (W : World) : Nat -> Prop := fun b => b < W.heap.size
structure zlo {H : Type} (enc : TypeId × Value -> H) (P : Program) (W : World) (t : TypeId) (α : Type) (sz : Nat) (av : α -> Nat -> AV) (ok : α -> Prop) : Prop where
 size : P.cellsOf t = sz
 go : ∀ fuel cs x, DataW.trod enc P W 0 (fun _ => true) true fuel t cs = some x -> ∃ y : α, ok y /\ cs.length = sz /\ ∀ j, j < sz -> ∃ v, cs[j]? = some v /\ one v /\ R W.heap (DW W) zap (av y j) v
structure zuf {H : Type} (enc : TypeId × Value -> H) (P : Program) (W : World) (fs : List Field) (off : Nat) (α : Type) (sz : Nat) (av : α -> Nat -> AV) (ok : α -> Prop) : Prop where
 go : ∀ fuel (cs : List Value) (xs : List (DataW H × List MemPlace)), (∀ (i : Nat) (f : Field), fs[i]? = some f -> ∃ x, DataW.trod enc P W 0 (fun _ => true) true fuel f.type ((cs.drop f.offset).take (P.cellsOf f.type)) = some x) -> ∃ y : α, ok y /\ ∀ j, j < sz -> ∃ v, cs[off + j]? = some v /\ one v /\ R W.heap (DW W) zap (av y j) v
theorem sgl {h : Array Obj} {D : Nat -> Prop} {f : Nat -> AV} {v : Value} (h1 : one v) (h2 : R h D zap (f 0) v) : ∀ j, j < 1 -> ∃ u, [v][j]? = some u /\ one u /\ R h D zap (f j) u := by
 intro j hj
 obtain rfl : j = 0 := by omega
 exact ⟨v, rfl, h1, h2⟩
theorem zzg {α : Type} (p : Nat -> α -> Prop) : ∀ n, (∀ i, i < n -> ∃ y, p i y) -> ∃ l : List α, l.length = n /\ ∀ i, i < n -> ∃ y, l[i]? = some y /\ p i y
 | 0, _ => ⟨[], rfl, fun i hi => by omega⟩
 | m + 1, h => by
   obtain ⟨l, e1, e2⟩ := zzg p m (fun i hi => h i (by omega))
   obtain ⟨y, hy⟩ := h m (by omega)
   refine ⟨l ++ [y], by simp [e1], fun i hi => ?_⟩
   by_cases hi' : i < m
   · obtain ⟨z, z1, z2⟩ := e2 i hi'
     exact ⟨z, by rw [List.getElem?_append_left (by omega)]; exact z1, z2⟩
   · have : i = m := by omega
     subst this
     exact ⟨y, by rw [<- e1]; simp, hy⟩
section
variable {H : Type} {enc : TypeId × Value -> H} {P : Program} {W : World}
theorem opens_int {t : TypeId} {k : IntKind} (ht : P.underlying t = some (.int k)) (hc : P.cellsOf t = 1) : zlo enc P W t Int 1 (fun n _ => .int k n) (fun n => (Lit.int k n).wf = true) := by
 refine ⟨hc, fun fuel cs x h => ?_⟩
 obtain ⟨n, rfl, rfl, hw⟩ := DataW.trod_int ht h
 exact ⟨n, hw, rfl, sgl rfl (.int k n)⟩
def avL {α : Type} (av : α -> Nat -> AV) (l : List α) (i j : Nat) : AV := match l[i]? with | some y => av y j | none => .dead
theorem opens_slice {t e : TypeId} {α : Type} {sz : Nat} {av : α -> Nat -> AV} {ok : α -> Prop} (ht : P.underlying t = some (.slice e)) (hc : P.cellsOf t = 1) (he : zlo enc P W e α sz av ok) (hs : 0 < sz) :
   zlo enc P W t (List α) 1 (fun l _ => .lst sz l.length (avL av l)) (fun l => l.length <= maxLen /\ ∀ y ∈ l, ok y) := by
 refine ⟨hc, fun fuel cs x h => ?_⟩
 rcases DataW.trod_slice ht h with ⟨rfl, rfl⟩ | ⟨a, len, cap, elems, rest, n, _, rfl, rfl, hb, hl, hm, hlen, hel, _, _⟩
 · exact ⟨[], ⟨Nat.zero_le _, fun y hy => by cases hy⟩, rfl, sgl rfl (.lst0 _ _ _ _ (fun _ => rfl))⟩
 · have each : ∀ i, i < len -> ∃ y : α, ok y /\ ∀ j, j < sz -> ∃ v, W.cell? ((a.add (i * sz)).add j) = some v /\ one v /\ R W.heap (DW W) zap (av y j) v := by
     intro i hi
     have h1 := hel i hi
     rw [he.size] at h1
     obtain ⟨z, hz⟩ : ∃ z, elems[i]? = some z := ⟨elems[i], by simp [hlen, hi]⟩
     rw [hz, Option.bind_eq_some_iff] at h1
     obtain ⟨cs', h2, h3⟩ := h1
     obtain ⟨y, y1, y2, y3⟩ := he.go _ _ _ h3
     refine ⟨y, y1, fun j hj => ?_⟩
     obtain ⟨v, v1, v2, v3⟩ := y3 j hj
     exact ⟨v, by rw [(World.cells?_some h2).2.2 j hj]; exact v1, v2, v3⟩
   obtain ⟨l, hl1, hl2⟩ : ∃ l : List α, l.length = len /\ ∀ i, i < len -> ∃ y, l[i]? = some y /\ ok y /\ ∀ j, j < sz -> ∃ v, W.cell? ((a.add (i * sz)).add j) = some v /\ one v /\ R W.heap (DW W) zap (av y j) v :=
     zzg (fun i y => ok y /\ ∀ j, j < sz -> ∃ v, W.cell? ((a.add (i * sz)).add j) = some v /\ one v /\ R W.heap (DW W) zap (av y j) v) len each
   refine ⟨l, ⟨by omega, fun y hy => ?_⟩, rfl, sgl rfl ?_⟩
   · obtain ⟨i, hi, rfl⟩ := List.getElem_of_mem hy
     obtain ⟨z, z1, z2, _⟩ := hl2 i (by omega)
     rw [List.getElem?_eq_getElem hi] at z1
     cases z1; exact z2
   · show R W.heap (DW W) zap (.lst sz l.length (avL av l)) _
     by_cases h0 : len = 0
     · subst h0; rw [hl1]; exact .lst0 _ _ _ _ (fun h => by cases h)
     · have cell : ∀ i j, i < len -> j < sz -> ∃ v, hcell W.heap a.block (a.off + i * sz + j) = some v /\ one v /\ R W.heap (DW W) zap (avL av l i j) v := by
         intro i j hi hj
         obtain ⟨y, y1, _, y3⟩ := hl2 i hi
         obtain ⟨v, v1, v2, v3⟩ := y3 j hj
         refine ⟨v, ?_, v2, by rw [avL, y1]; exact v3⟩
         rw [<- zfn]
         have hsp : ∀ p : Addr, W.cell? p = some v -> p.spot = none := by
           intro p hp
           unfold World.cell? at hp
           split at hp
           · split at hp
             · cases hp
             · rename_i hn; simpa using hn
           · cases hp
         have h1 := hsp _ v1
         have e : (a.add (i * sz)).add j = ⟨a.block, a.off + i * sz + j, none⟩ := by
           have hb1 : ((a.add (i * sz)).add j).block = a.block := by simp only [Addr.add]; split <;> split <;> rfl
           have hb2 : ((a.add (i * sz)).add j).off = a.off + i * sz + j := by simp only [Addr.add]; split <;> split <;> simp_all
           cases hq : (a.add (i * sz)).add j with
           | mk b o s => rw [hq] at h1 hb1 hb2; simp_all
         rw [<- e]; exact v1
       have hsp0 : a.spot = none := by
         obtain ⟨y, _, _, y3⟩ := hl2 0 (by omega)
         obtain ⟨v, v1, _⟩ := y3 0 hs
         rw [Nat.zero_mul] at v1
         simp only [Addr.add, if_true] at v1
         unfold World.cell? at v1
         split at v1
         · split at v1
           · cases v1
           · rename_i hn; simpa using hn
         · cases v1
       have hD : DW W a.block := by
         obtain ⟨v, v1, _⟩ := cell 0 0 (by omega) hs
         refine Classical.byContradiction fun hn => ?_
         unfold hcell at v1
         rw [Array.getElem?_eq_none (by unfold DW at hn; omega)] at v1
         cases v1
       have ea : a = ⟨a.block, a.off, none⟩ := by cases a; simp_all
       rw [ea, <- hl1]
       refine .lst sz l.length (avL av l) a.block a.off cap (fun i j => (hcell W.heap a.block (a.off + i * sz + j)).getD undef) hD (by omega) (fun i j hi hj => ?_) (fun i j hi hj => ?_) (fun i j hi hj => ?_)
       all_goals
         obtain ⟨v, v1, v2, v3⟩ := cell i j (by omega) hj
         rw [v1]
         first | rfl | exact v2 | exact v3
theorem zvd (off : Nat) : zuf enc P W [] off Unit 0 (fun _ _ => .dead) (fun _ => True) := ⟨fun _ _ _ _ => ⟨(), trivial, fun j hj => by omega⟩⟩
theorem zgt {f : Field} {fs : List Field} {off : Nat} {α β : Type} {sz sz' : Nat} {av : α -> Nat -> AV} {av' : β -> Nat -> AV} {ok : α -> Prop} {ok' : β -> Prop} (ho : f.offset = off) (hf : zlo enc P W f.type α sz av ok) (hr : zuf enc P W fs (off + sz) β sz' av' ok') :
   zuf enc P W (f :: fs) off (α × β) (sz + sz') (fun y j => if j < sz then av y.1 j else av' y.2 (j - sz)) (fun y => ok y.1 /\ ok' y.2) := by
 refine ⟨fun fuel cs xs h => ?_⟩
 obtain ⟨x, hx⟩ := h 0 f rfl
 obtain ⟨y, y1, y2, y3⟩ := hf.go _ _ _ hx
 obtain ⟨z, z1, z2⟩ := hr.go fuel cs xs (fun i g hg => h (i + 1) g hg)
 refine ⟨(y, z), ⟨y1, z1⟩, fun j hj => ?_⟩
 by_cases hlt : j < sz
 · obtain ⟨v, v1, v2, v3⟩ := y3 j hlt
   refine ⟨v, ?_, v2, by simp only [if_pos hlt]; exact v3⟩
   rw [hf.size, List.getElem?_take, if_pos hlt, List.getElem?_drop, ho] at v1
   exact v1
 · obtain ⟨v, v1, v2, v3⟩ := z2 (j - sz) (by omega)
   refine ⟨v, ?_, v2, by simp only [if_neg hlt]; exact v3⟩
   rw [<- v1]; congr 1; omega
theorem zp1 {t : TypeId} {fs : Array Field} {α : Type} {sz : Nat} {av : α -> Nat -> AV} {ok : α -> Prop} (ht : P.underlying t = some (.struct fs)) (hc : P.cellsOf t = sz) (hf : zuf enc P W fs.toList 0 α sz av ok) : zlo enc P W t α sz av ok := by
 refine ⟨hc, fun fuel cs x h => ?_⟩
 obtain ⟨xs, n, rfl, rfl, hl, hx, hfs⟩ := DataW.trod_struct ht h
 obtain ⟨y, y1, y2⟩ := hf.go n cs xs (fun i f hi => by
   have := hfs i f (by simpa using hi)
   have hlt : i < xs.length := by rw [hx]; simpa using (List.getElem?_eq_some_iff.1 hi).1
   exact ⟨xs[i], by rw [this]; simp [hlt]⟩)
 exact ⟨y, y1, by omega, fun j hj => by obtain ⟨v, v1, v2⟩ := y2 j hj; exact ⟨v, by simpa using v1, v2⟩⟩
theorem zlo.map {t : TypeId} {α β : Type} {sz : Nat} {av : α -> Nat -> AV} {av' : β -> Nat -> AV} {ok : α -> Prop} {ok' : β -> Prop} (O : zlo enc P W t α sz av ok) (f : α -> β) (h1 : ∀ y j, j < sz -> av y j = av' (f y) j) (h2 : ∀ y, ok y -> ok' (f y)) : zlo enc P W t β sz av' ok' := by
 refine ⟨O.size, fun fuel cs x h => ?_⟩
 obtain ⟨y, y1, y2, y3⟩ := O.go fuel cs x h
 refine ⟨f y, h2 y y1, y2, fun j hj => ?_⟩
 obtain ⟨v, v1, v2, v3⟩ := y3 j hj
 exact ⟨v, v1, v2, by rw [<- h1 y j hj]; exact v3⟩
theorem open_one {t : TypeId} {α : Type} {av : α -> Nat -> AV} {ok : α -> Prop} {v : Value} {d : DataW H} {p : List MemPlace} (O : zlo enc P W t α 1 av ok) (hv : v.cells = #[v]) (h : DataW.Trod enc P W 0 (fun _ => true) true t v d p) :
   ∃ y, ok y /\ R W.heap (DW W) zap (av y 0) v := by
 obtain ⟨fuel, h⟩ := h
 obtain ⟨y, y1, y2, y3⟩ := O.go _ _ _ h
 obtain ⟨u, u1, u2, u3⟩ := y3 0 (by omega)
 rw [hv] at u1
 simp at u1
 subst u1
 exact ⟨y, y1, u3⟩
end
theorem ybx {P : Program} {f : FuncId} {xs ys : List AV} {r : AV} (h : ∀ h D vs, RL h D zap xs vs -> RL h D zap ys vs) (ha : zab P f ys r) : zab P f xs r := fun D w vs hD hx => ha D w vs hD (h _ _ _ hx)
theorem ylu {h : Array Obj} {D : Nat -> Prop} {sz n : Nat} {g g' : Nat -> Nat -> AV} {xs : List AV} {vs : Array Value} (e : ∀ i j, i < n -> j < sz -> g i j = g' i j) (r : RL h D zap (.lst sz n g :: xs) vs) : RL h D zap (.lst sz n g' :: xs) vs := by
 obtain ⟨h1, h2⟩ := r
 refine ⟨by simpa using h1, fun i x v hx hv => ?_⟩
 cases i with
 | zero => cases hx; exact ztg (h2 0 _ v rfl hv) e
 | succ i => exact h2 (i + 1) x v (by simpa using hx) hv
end Sy
end Go.Proofs.YtlphgephdhadhaaGreat
namespace Go.Proofs.YtlphgephdhadhaaGreat
namespace Sy
open Go Go.RowKit
set_option maxRecDepth 100000
set_option linter.unusedSimpArgs false
set_option linter.unusedVariables false
structure Vw (α : Type) where
 sz : Nat
 cell : za8 -> α -> Nat -> AV
 rd : (Nat -> AV) -> α
 ok : (Nat -> AV) -> Prop
 d : α
structure yby {α : Type} (V : Vw α) : Prop where
 turn : ∀ c, V.ok c -> ∀ j, j < V.sz -> ∀ (h : Array Obj) (D : Nat -> Prop) (μ : Mu) (v : Value), R h D μ (c j) v -> R h D μ (V.cell std (V.rd c) j) v
 back : ∀ c x, (∀ j, j < V.sz -> c j = V.cell std x j) -> V.ok c /\ V.rd c = x
def zyt {α : Type} (V : Vw α) (l : List α) (i : Nat) : α := l.getD i V.d
def zf5 {α : Type} (l : List α) : Nat := l.length
def getW {α : Type} (L : za8) (V : Vw α) (l : List α) : Nat -> Nat -> AV := fun i j => V.cell L (L (L (zyt V) l) i) j
def zti {α : Type} (L : za8) (V : Vw α) (l : List α) : AV := .lst V.sz (L zf5 l) (getW L V l)
def rdW {α : Type} (V : Vw α) : AV -> List α
 | .lst _ n get => (List.range n).map fun i => V.rd (get i)
 | _ => []
def okW {α : Type} (V : Vw α) : AV -> Prop
 | .lst sz n get => sz = V.sz /\ ∀ i, i < n -> V.ok (get i)
 | .nils => True
 | _ => False
theorem zi9 {α : Type} {V : Vw α} {l : List α} {i : Nat} (h : i < l.length) : zyt V l i = l[i] := by
 rw [zyt, List.getD_eq_getElem?_getD, List.getElem?_eq_getElem h]; rfl
theorem zqv {α : Type} (V : Vw α) (sz n : Nat) (get : Nat -> Nat -> AV) : (rdW V (.lst sz n get)).length = n := by simp [rdW]
theorem yfy {α : Type} {V : Vw α} {sz n : Nat} {get : Nat -> Nat -> AV} {i : Nat} (h : i < n) : zyt V (rdW V (.lst sz n get)) i = V.rd (get i) := by
 rw [zi9 (by rw [zqv]; exact h)]
 simp [rdW]
theorem ym9 {α : Type} {V : Vw α} (K : yby V) {h : Array Obj} {D : Nat -> Prop} {μ : Mu} {x : AV} {v : Value} (ho : okW V x) (r : R h D μ x v) : R h D μ (zti std V (rdW V x)) v := by
 match x, ho with
 | .nils, _ => cases r; exact .lst0 _ _ none 0 (fun _ => rfl)
 | .lst sz n get, ho =>
   obtain ⟨rfl, ho⟩ := ho
   have e : zti std V (rdW V (.lst V.sz n get)) = .lst V.sz n (getW std V (rdW V (.lst V.sz n get))) := by
     show AV.lst V.sz (zf5 (rdW V (.lst V.sz n get))) _ = _
     rw [show zf5 (rdW V (.lst V.sz n get)) = n from zqv _ _ _ _]
   rw [e]
   cases r with
   | lst0 _ _ a cap hn => exact .lst0 _ _ a cap hn
   | lst _ _ _ b o cap vs hD hc hv h1 hr =>
     refine .lst _ _ _ b o cap vs hD hc hv h1 (fun i j hi hj => ?_)
     show R h D zap (V.cell std (zyt V (rdW V (.lst V.sz n get)) i) j) (vs i j)
     rw [yfy hi]
     exact K.turn _ (ho i hi) j hj _ _ _ _ (hr i j hi hj)
theorem zsp {α : Type} {V : Vw α} (K : yby V) {n : Nat} {get : Nat -> Nat -> AV} {l : List α} (hn : n = l.length) (h : ∀ i j, i < n -> j < V.sz -> get i j = V.cell std (zyt V l i) j) : okW V (.lst V.sz n get) /\ rdW V (.lst V.sz n get) = l := by
 subst hn
 refine ⟨⟨rfl, fun i hi => (K.back _ _ (fun j hj => h i j hi hj)).1⟩, ?_⟩
 apply List.ext_getElem
 · rw [zqv]
 · intro i h1 h2
   have := yfy (V := V) (sz := V.sz) (get := get) h2
   rw [zi9 h1] at this
   rw [this, (K.back _ _ (fun j hj => h i j h2 hj)).2, zi9 h2]
theorem zy9 {α : Type} {V : Vw α} (K : yby V) (l : List α) : okW V (zti std V l) /\ rdW V (zti std V l) = l := zsp K rfl (fun i j hi hj => rfl)
theorem yo1 {α : Type} {V : Vw α} (K : yby V) {P : Program} {f : FuncId} {x r : AV} {xs : List AV} (ho : okW V x) (h : zab P f (zti std V (rdW V x) :: xs) r) : zab P f (x :: xs) r :=
 ybx (fun hp D vs hr => by
   refine ⟨by rw [<- hr.1]; rfl, fun i z v hz hv => ?_⟩
   cases i with
   | zero => cases hz; exact ym9 K ho (hr.2 0 x v rfl hv)
   | succ i => exact hr.2 (i + 1) z v hz hv) h
def isS (x : AV) : Prop := ∃ s, x = .str s
def isI (k : IntKind) (x : AV) : Prop := ∃ n, x = .int k n
theorem yj4 {k : IntKind} {x : AV} (h : isI k x) {hp : Array Obj} {D : Nat -> Prop} {μ : Mu} {v : Value} (r : R hp D μ x v) : R hp D μ (.int k x.toI) v := by obtain ⟨s, rfl⟩ := h; exact r
def zpp {α : Type} (p : α -> Bool) : List α -> Int
 | [] => -1
 | x :: l => if p x = true then 0 else if zpp p l < 0 then -1 else zpp p l + 1
theorem ya4 {α : Type} (p : α -> Bool) : ∀ l : List α, -1 <= zpp p l /\ zpp p l < l.length
 | [] => by simp [zpp]
 | x :: l => by
   have ih := ya4 p l
   rw [List.length_cons]
   unfold zpp
   split
   · omega
   · split <;> omega
theorem ya5 {α : Type} {p : α -> Bool} : ∀ {l : List α} {i : Nat} (hi : i < l.length), (∀ k (hk : k < i), p (l[k]'(by omega)) = false) -> p l[i] = true -> zpp p l = i
 | [], i, hi, _, _ => by simp at hi
 | x :: l, 0, hi, _, h => by simp at h; simp [zpp, h]
 | x :: l, i + 1, hi, h0, h => by
   have hx : p x = false := by simpa using h0 0 (by omega)
   have ih := ya5 (p := p) (l := l) (i := i) (by simpa using hi) (fun k hk => by have := h0 (k + 1) (by omega); simpa using this) (by simpa using h)
   rw [zpp, if_neg (by rw [hx]; decide), if_neg (by omega), ih]; simp
theorem ya3 {α : Type} {p : α -> Bool} : ∀ {l : List α}, (∀ x ∈ l, p x = false) -> zpp p l = -1
 | [], _ => rfl
 | x :: l, h => by
   have hx := h x (by simp)
   have ih := ya3 (p := p) (l := l) (fun y hy => h y (by simp [hy]))
   rw [zpp, if_neg (by rw [hx]; decide), if_pos (by omega)]
def zr3 {α : Type} (p : α -> Bool) (l : List α) (i : Nat) : Prop := i <= l.length /\ ∀ x ∈ l.take i, p x = false
theorem yic {α : Type} (p : α -> Bool) (l : List α) : zr3 p l 0 := ⟨Nat.zero_le _, fun x hx => by simp at hx⟩
theorem zvg {α : Type} {V : Vw α} {p : α -> Bool} {l : List α} {i : Nat} (h : zr3 p l i) (hi : i < l.length) (hp : p (zyt V l i) = false) : zr3 p l (i + 1) := by
 refine ⟨hi, fun x hx => ?_⟩
 rw [List.take_succ_eq_append_getElem hi, List.mem_append] at hx
 rcases hx with hx | hx
 · exact h.2 x hx
 · rw [List.mem_singleton.1 hx, <- zi9 (V := V) hi]; exact hp
theorem zyx {α : Type} {V : Vw α} {p : α -> Bool} {l : List α} {i : Nat} (h : zr3 p l i) (hi : i < l.length) (hp : p (zyt V l i) = true) : zpp p l = i := by
 rw [zi9 hi] at hp
 refine ya5 hi (fun k hk => h.2 _ ?_) hp
 rw [List.mem_take_iff_getElem]
 exact ⟨k, by omega, rfl⟩
theorem zyy {α : Type} {p : α -> Bool} {l : List α} {i : Nat} (h : zr3 p l i) (hi : ¬ i < l.length) : zpp p l = -1 := by
 have := h.2
 rw [List.take_of_length_le (by omega)] at this
 exact ya3 this
theorem ymh {P : Program} {f : FuncId} {sz n : Nat} {get : Nat -> Nat -> AV} {xs : List AV} {O : List (Nat × Ob)} {r : AV} {O1 : List (Nat × Ob)} (h1 : 0 < n -> zaq P f (.lst sz n get :: xs) O r O1) (h2 : n = 0 -> zaq P f (.nils :: xs) O r O1) (h3 : n = 0 -> zaq P f (.emp :: xs) O r O1) : zaq P f (.lst sz n get :: xs) O r O1 := by
 by_cases h0 : 0 < n
 · exact h1 h0
 obtain rfl : n = 0 := by omega
 intro D w μ vs hD hxs
 obtain ⟨v, hv⟩ : ∃ v, vs[0]? = some v := by
   have := hxs.1
   simp at this
   exact ⟨vs[0], by simp⟩
 have hr := hxs.2 0 _ v rfl hv
 have other : ∀ y, R w.heap D μ y v -> RL w.heap D μ (y :: xs) vs := fun y hy => ⟨hxs.1, fun i z u hz hu => by
   cases i with
   | zero => cases hz; rw [hv] at hu; cases hu; exact hy
   | succ i => exact hxs.2 (i + 1) z u hz hu⟩
 cases hr with
 | lst0 _ _ a cap hn =>
   cases a with
   | none =>
     have := hn rfl
     subst this
     exact h2 rfl D w μ vs hD (other _ .nils)
   | some a => exact h3 rfl D w μ vs hD (other _ (.emp a cap))
 | lst _ _ _ b o cap ws hD' hc hv' h1' hr' => exact h3 rfl D w μ vs hD (other _ (.emp _ cap))
def upN (n : Nat) : Prop := n <= 1000000
def yb0 (f ty sz : Nat) (L : za8) : zfq := (f, fun raw ob => match raw with
 | [.lst s n get] => match zam s sz with
   | true => some ⟨[.lst sz n get], [], L upN n, .sl 900 sz 0 n, [(900, .row ty sz n get)]⟩
   | false => none
 | _ => none)
def zyl (f : Nat) : zfq := (f, fun raw ob => match raw with
 | [.sl a sz off n, .slc b sz' off' n' cap] => match ob a, ob b with
   | some (.row ty _ k get), some (.row ty' _ k' get') => match zbc 1 sz, zam sz sz' with
     | true, true => some ⟨[.sl 500000 sz off n, .slc 500001 sz off' n' cap], [(500000, .row ty sz k get), (500001, .row ty' sz k' get')], True, .bool false, [(500000, .row ty sz k get), (500001, .row ty' sz k' get')]⟩
     | _, _ => none
   | _, _ => none
 | _ => none)
theorem ya0 (i j k n : Int) : (ygk i j k n = true) = (0 <= i /\ i <= j /\ j <= k /\ k <= n) := by simp [ygk, and_assoc]
theorem yn4 (a : Int) (n : Nat) : gei std (some a) n = a := rfl
theorem yn5 (n : Nat) : gei std none n = (n : Int) := rfl
theorem yg8 (a b : Nat) : (zbd a b = true) = (a <= b) := zcg
theorem yg6 (a b : Nat) : (zbc a b = true) = (a < b) := zbo
theorem yg9 (a b : Nat) : (zbd a b = false) = (b < a) := by simp [zbd]
theorem yg7 (a b : Nat) : (zbc a b = false) = (b <= a) := by simp [zbc]
theorem yd4 (m n : Nat) : (zop m n = true) = (0 < n /\ m <= n) := by simp [zop, zbc, zbd]
theorem ygv (a b : Nat) : Nat.add a b = a + b := rfl
theorem yfq (a b : Nat) : Nat.sub a b = a - b := rfl
theorem zx7 (c : Bool) (x y : AV) : zmx c x y = if c = true then x else y := by cases c <;> rfl
theorem yhm (sz : Nat) (h : 1 < sz) (c : Bool) (x y : AV) : yc4 std sz c x y = if c = true then x else y := by
 unfold yc4
 split
 · omega
 · cases c <;> rfl
theorem zx9 (off n e : Nat) : (zcz off n e = true) = (off <= e /\ e < off + n) := by simp [zcz, zbd, zbc]
theorem ymf (a b : Nat) : Nat.min a b = min a b := rfl
def ygj (get gv : Nat -> Nat -> AV) (i : Nat) : Nat -> Nat -> AV := fun q j => if q < i then get q j else if q = i then gv 0 j else get (q - 1) j
def yek (n : Nat) (i : Int) : Prop := n <= 1000000 /\ 0 <= i /\ i <= n
def yq4 (f ty sz : Nat) (L : za8) : zfq := (f, fun raw ob => match raw with
 | [.sl a s 0 n, .int .i64 i, .sl b s' 0 1] => match ob a, ob b, zam s sz, zam s' sz with
   | some (.row _ _ k get), some (.row _ _ _ gv), true, true => some ⟨[.sl 500000 sz 0 n, .int .i64 i, .sl 500001 sz 0 1], [(500000, .row ty sz n get), (500001, .row ty sz 1 gv)], L2 L yek n i, .sl 900 sz 0 (L2 L Nat.add n 1), [(900, .row ty sz (L2 L Nat.add n 1) (L3 L ygj get gv (L Int.toNat i)))]⟩
   | _, _, _, _ => none
 | _ => none)
theorem zfu {P : Program} {w : World} {tS tR e sz : Nat} (ht : P.underlying tS = some (.slice e)) (hz : ∀ w, (Go.sizeOf e).run P w = .ok sz w) {a b : Option Addr} {la ca lb cb : Nat} (h : la = 0 \/ lb = 0) :
   (Extern.SlicesOverlaps.overlaps #[tS, tS] #[tR] #[.slice a la ca, .slice b lb cb]).run P w = .ok (.bool false) w := by
 have h' : la = 0 \/ lb = 0 \/ sz = 0 := by rcases h with h | h; exact .inl h; exact .inr (.inl h)
 change Sem.run P (α := Value) (do
   let some t := (#[tS, tS] : Array TypeId)[0]? | stuck "slices.overlaps: no parameter types"
   let .slice elem <- underlying t | stuck "slices.overlaps: slice type expected"
   let size <- sizeOf elem
   match a, b with
   | some a, some b =>
     if la = 0 \/ lb = 0 \/ size = 0 then pure (Value.bool false)
     else if a.block != b.block && (<- frozen a) && (<- frozen b) then unsupported .addressObserved
     else do
       if a.block != b.block then do
         noView a; noView b
         if <- mayBeOne a b then return Value.bool ((<- choose (.extern "sameAddr.stringBytes" 2)) == 1)
       pure (Value.bool (a.block == b.block && a.off < b.off + lb * size && b.off < a.off + la * size))
   | _, _ => pure (Value.bool false)) w = _
 cases a <;> cases b <;> simp [run_underlying ht, hz, h']
theorem ydc {P : Program} {f : FuncId} {fn : Func} {tS tR e esz : Nat} (hf : P.funcs[f]? = some fn) (hn : (fn.name == "runtime.NumGoroutine") = false) (hb : fn.body.isNone = true) (hnx : Extern.findNext fn = none) (hx : Extern.find fn = some (Extern.SlicesOverlaps.overlaps #[tS, tS] #[tR]))
   (ht : P.underlying tS = some (.slice e)) (hz : ∀ w, (Go.sizeOf e).run P w = .ok esz w) : zcb P (zyl f) := by
 intro raw ob T hT hp
 unfold zyl at hT
 simp only at hT
 repeat' split at hT
 all_goals first | (cases hT; done) | skip
 rename_i a sz off n b sz' off' n' cap _ _ ty szr k get ty' szr' k' get' he1 he2 _ _ hs hsz
 obtain rfl := za4 hsz
 have hs := zc4 hs
 cases hT
 intro D w μ vs hD hxs hdom hobs hinj hown hg hgb
 obtain ⟨v, u, hv⟩ : ∃ v u, vs.toList = [v, u] := by
   have hl : vs.toList.length = 2 := by simpa using hxs.1.symm
   match vs.toList, hl with
   | [a, b], _ => exact ⟨a, b, rfl⟩
 have : vs = #[v, u] := by rw [<- Array.toArray_toList (xs := vs), hv]
 subst this
 have r1 : R w.heap D μ (.sl 500000 sz off n) v := hxs.2 0 _ v rfl rfl
 have r2 : R w.heap D μ (.slc 500001 sz off' n' cap) u := hxs.2 1 _ u rfl rfl
 have key : (Extern.SlicesOverlaps.overlaps #[tS, tS] #[tR] #[v, u]).run P w = .ok (.bool false) w := by
   have r3 := r2.less
   cases r1 with
   | slv _ _ ad hm => cases r3 <;> exact zfu ht hz (.inl rfl)
   | sl0 _ _ _ b z m o hm ho => cases r3 <;> exact zfu ht hz (.inl rfl)
   | sl _ _ _ _ b1 z1 m1 cap1 hm1 hn1 hz1 ho1 =>
     cases r3 with
     | slv _ _ ad hm => exact zfu ht hz (.inr rfl)
     | sl0 _ _ _ b z m o hm ho => exact zfu ht hz (.inr rfl)
     | sl _ _ _ _ b2 z2 m2 cap2 hm2 hn2 hz2 ho2 =>
       by_cases h0 : n = 0 \/ n' = 0
       · exact zfu ht hz h0
       obtain ⟨_, C1, t1, fr1, hh1, hc1, hf1, hl1, hr1⟩ := hobs 500000 (.row ty sz k get) _ rfl hm1
       obtain ⟨_, C2, t2, fr2, hh2, hc2, hf2, hl2, hr2⟩ := hobs 500001 (.row ty' sz k' get') _ rfl hm2
       have hne : b1 ≠ b2 := by
         rintro rfl
         have := hinj 500000 500001 b1 _ _ hm1 hm2
         omega
       have hfr := hf1.2.2.2 hs
       have hin : off * sz < z1 := by
         have h1 : (off + 1) * sz <= (off + cap1) * sz := Nat.mul_le_mul_right _ (by omega)
         rw [Nat.add_mul] at h1
         omega
       have hpos : 0 < z2 := by
         have h1 : 1 * sz <= (off' + cap2) * sz := Nat.mul_le_mul_right _ (by omega)
         omega
       have fz : ∀ o, o <= z1 -> w.frozen? { block := b1, off := o, spot := none } = false := by
         intro o ho
         have := hfr o (by omega)
         simp only [World.frozen?, hh1]
         simp only [Bool.and_eq_false_iff, decide_eq_false_iff_not]
         omega
       exact Lib.run_overlaps_apart w tS tR e ht esz hz ⟨b1, off * sz, none⟩ ⟨b2, off' * sz, none⟩ n cap1 n' cap2 hne t1 t2 C1.size C2.size (by simp [World.shape?, hh1]) (by simp [World.shape?, hh2]) (by omega) (fz _ (by omega)) (fz _ (by omega))
 unfold ze5
 rw [show (zyl f).fst = f from rfl, run_callFunc_extern hf hn hb hnx hx, key]
 exact ⟨_, D, μ, { ret := rfl, os := rfl, tape := rfl, output := rfl, size := Nat.le_refl _, old := fun _ _ _ => rfl, up := fun _ h => h, dn := fun _ h => .inl h, dom := hdom, obs := hobs, inj := hinj, own := fun n b z h => ⟨(hown n b z h).1, (hown n b z h).2, .inr ⟨n, z, h⟩⟩, keep := fun _ _ _ => rfl, val := .bool _ }⟩
def zql (get : Nat -> Nat -> AV) (i : Nat) : Nat -> Nat -> AV := fun q j => if q < i then get q j else get (q + 1) j
def yf7 (n : Nat) (i j : Int) : Prop := n <= 1000000 /\ 0 <= i /\ i < n /\ j = i + 1
def zfs (n : Nat) : Nat := n - 1
def yqc (f ty sz : Nat) (L : za8) : zfq := (f, fun raw ob => match raw with
 | [.sl a s 0 n, .int .i64 i, .int .i64 j] => match ob a, zam s sz with
   | some (.row _ _ k get), true => some ⟨[.sl 500000 sz 0 n, .int .i64 i, .int .i64 j], [(500000, .row ty sz n get)], L3 L yf7 n i j, .sl 900 sz 0 (L zfs n), [(900, .row ty sz (L zfs n) (L2 L zql get (L Int.toNat i)))]⟩
   | _, _ => none
 | _ => none)
def zef (n : Int) : Prop := 0 <= n /\ n < 18446744073709551616
def zbb (n : Int) : List UInt8 := zdg n.toNat
def zi3 (L : za8) : zcu := (70, fun xs => match xs with | [.int .u64 n] => some (L zef n, .str (L zbb n)) | _ => none)
theorem zg7 : zd7 Tryz.prog (zi3 std) := by
 intro xs p r h hp
 dsimp only [zi3] at h |-
 split at h <;> cases h
 try simp only [L2, L3, std] at hp |-
 rename_i n
 obtain ⟨h0, h1⟩ : zef n := hp
 obtain ⟨k, rfl⟩ := zz0 h0
 exact ze4 (fn := Tryz.f70) rfl rfl (by kernel_rfl) (ykk (zh3 _ _)) (fun h D => zx0 h D _ _) (fun w => zx5 k w (by omega))
theorem zw6 : zab Tryz.prog 71 [] (.bool true) := by
 refine za9 (T := tt) (S := fun L => zbe [zi3 L, zva L]) (lo := noA) (lb := noA) 5 (fn := Tryz.f71) rfl rfl (by kernel_rfl) (by kernel_rfl) rfl zae (za7 ⟨zg7, zjc, trivial⟩) (by kernel_rfl) ?_
 (intro L P1 Q1 hL hP hQ; cbv; subst hL; simp only [L2, L3, std, syT]; subst hQ)
 (simp only [syS, reduceCtorEq, Int.reduceToNat, Int.reduceAdd, Int.reduceSub])
 exact ⟨by unfold zef; omega, fun _ => ⟨by unfold yd8; omega, by decide +kernel⟩, by rw [zbb, show (300 : Int).toNat = 300 from rfl, zg8 (by decide), zbw (by decide)]; rfl⟩
def tru (f : Nat) : zcu := (f, fun xs => match xs with | [] => some (True, .bool true) | _ => none)
theorem zc1 {P : Program} {f : Nat} (h : zab P f [] (.bool true)) : zd7 P (tru f) := by
 intro xs p r h' hp
 match xs with
 | [] => cases h'; exact h
 | x :: xs => cases h'
theorem zir : zab Tryz.prog 56 [] (.bool true) := by
 refine za9 (T := tt) (S := fun L => zbe [tru 71]) (lo := noA) (lb := noA) 5 (fn := Tryz.f56) rfl rfl (by kernel_rfl) (by kernel_rfl) rfl zae (za7 ⟨zc1 zw6, trivial⟩) (by kernel_rfl) ?_
 (intro L P1 Q1 hL hP hQ; cbv; subst hL; simp only [L2, L3, std, syT]; subst hQ)
 (simp only [syS, reduceCtorEq, Int.reduceToNat, Int.reduceAdd, Int.reduceSub])
def zkf : zfq := (91, fun raw ob => match raw with
 | [.ref id 0] => match ob id with
   | some (.box ty cs) => some ⟨[.ref 500000 0], [(500000, .box ty cs)], True, .ref 500000 0, [(500000, .box ty cs)]⟩
   | _ => none
 | _ => none)
theorem zm0 : zcb Tryz.prog zkf := by
 intro raw ob T hT hp
 unfold zkf at hT
 simp only at hT
 split at hT
 · split at hT
   · cases hT
     intro D w μ vs hD hxs hdom hobs hinj hown hg hgb
     obtain ⟨v, hv⟩ : ∃ v, vs.toList = [v] := List.length_eq_one_iff.1 (by simpa using hxs.1.symm)
     have : vs = #[v] := by rw [<- Array.toArray_toList (xs := vs), hv]
     subst this
     unfold ze5
     rw [show zkf.fst = 91 from rfl, run_callFunc_extern (fn := Tryz.f91) rfl (by kernel_rfl) (by kernel_rfl) (by kernel_rfl) (e := Extern.AbiNoEscape.same) (by kernel_rfl)]
     rw [Lib.run_noEscape]
     exact ⟨v, D, μ, { ret := rfl, os := rfl, tape := rfl, output := rfl, size := Nat.le_refl _, old := fun _ _ _ => rfl, up := fun _ h => h, dn := fun _ h => .inl h, dom := hdom, obs := hobs, inj := hinj, own := fun n b z h => ⟨(hown n b z h).1, (hown n b z h).2, .inr ⟨n, z, h⟩⟩, keep := fun _ _ _ => rfl, val := hxs.2 0 _ _ rfl rfl }⟩
   · cases hT
 · cases hT
def yk1 : zfq := (78, fun raw ob => match raw with
 | [.ref id 0] => match ob id with
   | some (.box _ [.nilp, .nils]) => some ⟨[.ref 500000 0], [(500000, .box 97 [.nilp, .nils])], True, .tup [], [(500000, .box 97 [.ref 500000 0, .nils])]⟩
   | some (.box _ [.ref _ 0, .sl k 1 0 n]) => match ob k with
     | some (.row _ 1 m get) => some ⟨[.ref 500000 0], [(500000, .box 97 [.ref 500000 0, .sl 500001 1 0 m]), (500001, .row 5 1 m get)], True, .tup [], [(500000, .box 97 [.ref 500000 0, .sl 500001 1 0 m]), (500001, .row 5 1 m get)]⟩
     | _ => none
   | _ => none
 | _ => none)
theorem ynm : zaq Tryz.prog 78 [.ref 500000 0] [(500000, .box 97 [.nilp, .nils])] (.tup []) [(500000, .box 97 [.ref 500000 0, .nils])] := by
 refine zak (T := tt) (S := fun L => zb3 [] [zkf]) (lo := noA) (lb := noA) 5 (fn := Tryz.f78) (xs := fun L => [.ref 500000 0]) (rts := fun _ => []) (O := fun L => [(500000, .box 97 [.nilp, .nils])]) (O1 := fun L => [(500000, .box 97 [.ref 500000 0, .nils])])
   rfl rfl (by kernel_rfl) (by kernel_rfl) (by kernel_rfl) zae (zaa trivial ⟨zm0, trivial⟩) (by kernel_rfl) ?_
 intro L P' Q' hL hP hQ
 (cbv; try simp only [syT, true_and, and_true])
 exact ⟨fun _ => trivial, fun h => by cases h⟩
theorem ynl (m : Nat) (get : Nat -> Nat -> AV) : zaq Tryz.prog 78 [.ref 500000 0] [(500000, .box 97 [.ref 500000 0, .sl 500001 1 0 m]), (500001, .row 5 1 m get)] (.tup []) [(500000, .box 97 [.ref 500000 0, .sl 500001 1 0 m]), (500001, .row 5 1 m get)] := by
 refine zak (T := tt) (S := fun L => zb3 [] [zkf]) (lo := noA) (lb := noA) 5 (fn := Tryz.f78) (xs := fun L => [.ref 500000 0]) (rts := fun _ => []) (O := fun L => [(500000, .box 97 [.ref 500000 0, .sl 500001 1 0 m]), (500001, .row 5 1 m get)]) (O1 := fun L => [(500000, .box 97 [.ref 500000 0, .sl 500001 1 0 m]), (500001, .row 5 1 m get)])
   rfl rfl (by kernel_rfl) (by kernel_rfl) (by kernel_rfl) zae (zaa trivial ⟨zm0, trivial⟩) (by kernel_rfl) ?_
 intro L P' Q' hL hP hQ
 (cbv; try simp only [syT, true_and, and_true])
 subst hL
 simp [std]
theorem zl8 : zcb Tryz.prog yk1 := by
 intro raw ob T hT hp
 unfold yk1 at hT
 simp only at hT
 repeat' split at hT
 all_goals first | (cases hT; done) | (cases hT; exact ynm) | (cases hT; exact ynl _ _)
def bld (L : za8) (l : List UInt8) : List (Nat × Ob) := [(500000, .box 97 [.ref 500000 0, .sl 500001 1 0 (L lenN l)]), (500001, .row 5 1 (L lenN l) (fun i _ => .int .u8 (L2 L zau l i)))]
def zs4 (L : za8) (l : List UInt8) : List (Nat × Ob) := [(500000, .box 97 [.ref 500000 0, .sl 7 1 0 (L lenN l)]), (7, .row 5 1 (L lenN l) (fun i _ => .int .u8 (L2 L zau l i)))]
def yl0 : List (Nat × Ob) := [(500000, .box 97 [.nilp, .nils])]
def ybq (L : za8) (ob : Nat -> Option Ob) (id : Nat) : Option (Option (List UInt8)) := match ob id with
 | some (.box _ [.nilp, .nils]) => some none
 | some (.box _ [.ref _ 0, .sl k 1 0 n]) => match ob k with
   | some (.row _ 1 m get) => some (some (L2 L bytesOf m (fun i => (get i 0).toI)))
   | _ => none
 | _ => none
def za6 (l m : List UInt8) : List UInt8 := l ++ m
def zc5 (c : Int) : List UInt8 := [UInt8.ofNat c.toNat]
def ylc (c : Int) : Prop := 0 <= c /\ c < 256
def zfa (l m : List UInt8) : Prop := l.length + m.length <= 90000000
def yo7 (L : za8) : zfq := (68, fun raw ob => match raw with
 | [.ref id 0, .int .u8 c] => match ybq L ob id with
   | some none => some ⟨[.ref 500000 0, .int .u8 c], yl0, L ylc c, .dead, zs4 L (L zc5 c)⟩
   | some (some l) => some ⟨[.ref 500000 0, .int .u8 c], bld L l, L ylc c /\ L2 L zfa l (L zc5 c), .dead, zs4 L (L2 L za6 l (L zc5 c))⟩
   | none => none
 | _ => none)
def yo5 (L : za8) : zfq := (69, fun raw ob => match raw with
 | [.ref id 0, .str s] => match ybq L ob id with
   | some (some l) => some ⟨[.ref 500000 0, .str s], bld L l, L2 L zfa l s, .tup [.int .i64 (L slen s), .dead], zs4 L (L2 L za6 l s)⟩
   | _ => none
 | _ => none)
def yqq (L : za8) : zfq := (54, fun raw ob => match raw with
 | [.ref id 0] => match ybq L ob id with
   | some (some l) => some ⟨[.ref 500000 0], bld L l, L (fun l => l ≠ [] /\ l.length <= 90000000) l, .str l, []⟩
   | _ => none
 | _ => none)
def yqr (L : za8) : zfq := (53, fun raw ob => match raw with
 | [.ref id 0] => match ybq L ob id with
   | some (some l) => some ⟨[.ref 500000 0], bld L l, True, .int .i64 (L slen l), bld L l⟩
   | _ => none
 | _ => none)
theorem zo8 {l m : List UInt8} {i : Nat} (h : i < l.length) : zau (l ++ m) i = zau l i := by
 simp [zau, List.getElem?_append_left h]
theorem zo7 {l m : List UInt8} {i : Nat} (h : ¬ i < l.length) : zau (l ++ m) i = zau m (i - l.length) := by
 simp [zau, List.getElem?_append_right (show l.length <= i by omega)]
theorem zf0 (l : List UInt8) : bytesOf l.length (fun i => zau l i) = l := by
 apply List.ext_getElem
 · simp [bytesOf]
 · intro i h1 h2
   simp [bytesOf, zau, h2]
theorem zua {c : Int} (hc : ylc c) (i : Nat) (h : i < 1) : za1 [c] i = zau (zc5 c) i := by
 have : i = 0 := by omega
 subst this
 obtain ⟨h0, h1⟩ := hc
 simp [za1, zau, zc5, UInt8.toNat_ofNat']
 omega
theorem yl9 (c : Int) (hc : ylc c) : zaq Tryz.prog 68 [.ref 500000 0, .int .u8 c] yl0 .dead (zs4 std (zc5 c)) := by
 refine zak (T := tt) (S := fun L => zb3 [] [yk1]) (lo := noA) (lb := noA) 5 (fn := Tryz.f68) (xs := fun L => [.ref 500000 0, .int .u8 c]) (rts := fun _ => [.dead]) (O := fun L => yl0) (O1 := fun L => zs4 L (L zc5 c))
   rfl rfl (by kernel_rfl) (by kernel_rfl) (by kernel_rfl) zae (zaa trivial ⟨zl8, trivial⟩) (by kernel_rfl) ?_
 intro L P' Q' hL hP hQ
 (cbv; try simp only [syT, true_and, and_true])
 subst hL
 simp only [L2, L3, std, zjb]
 have h1 : lenN (zc5 c) = 1 := rfl
 rw [h1]
 exact ⟨by omega, ⟨rfl, fun i j hi hj => by rw [show Nat.add 0 i = i from Nat.zero_add i, zua hc i hi]⟩, rfl⟩
theorem yl8 (l : List UInt8) (c : Int) (hc : ylc c) (hl : zfa l (zc5 c)) : zaq Tryz.prog 68 [.ref 500000 0, .int .u8 c] (bld std l) .dead (zs4 std (za6 l (zc5 c))) := by
 refine zak (T := tt) (S := fun L => zb3 [] [yk1]) (lo := noA) (lb := noA) 5 (fn := Tryz.f68) (xs := fun L => [.ref 500000 0, .int .u8 c]) (rts := fun _ => [.dead]) (O := fun L => bld L l) (O1 := fun L => zs4 L (L2 L za6 l (L zc5 c)))
   rfl rfl (by kernel_rfl) (by kernel_rfl) (by kernel_rfl) zae (zaa trivial ⟨zl8, trivial⟩) (by kernel_rfl) ?_
 intro L P' Q' hL hP hQ
 (cbv; try simp only [syT, true_and, and_true])
 subst hL
 simp only [L2, L3, std, zjb]
 have h1 : lenN (za6 l (zc5 c)) = l.length + 1 := by simp [lenN, za6, zc5]
 have h2 : (zc5 c).length = 1 := rfl
 have hl : l.length + (zc5 c).length <= 90000000 := hl
 have h3 : lenN l = l.length := rfl
 rw [h1, h3]
 refine ⟨fun _ _ _ _ => trivial, by omega, ⟨rfl, fun i j hi hj => ?_⟩, rfl⟩
 by_cases h : i < l.length
 · rw [zvz h, show za6 l (zc5 c) = l ++ zc5 c from rfl, zo8 h]; rfl
 · rw [ykh h, show za6 l (zc5 c) = l ++ zc5 c from rfl, zo7 h]
   show AV.int .u8 (za1 [c] (Nat.add 0 (i - l.length))) = _
   rw [show Nat.add 0 (i - l.length) = i - l.length from Nat.zero_add _, zua hc _ (by omega)]
theorem yl4 (l s : List UInt8) (hl : zfa l s) : zaq Tryz.prog 69 [.ref 500000 0, .str s] (bld std l) (.tup [.int .i64 (slen s), .dead]) (zs4 std (za6 l s)) := by
 refine zak (T := tt) (S := fun L => zb3 [] [yk1]) (lo := noA) (lb := noA) 5 (fn := Tryz.f69) (xs := fun L => [.ref 500000 0, .str s]) (rts := fun L => [.int .i64 (L slen s), .dead]) (O := fun L => bld L l) (O1 := fun L => zs4 L (L2 L za6 l s))
   rfl rfl (by kernel_rfl) (by kernel_rfl) (by kernel_rfl) zae (zaa trivial ⟨zl8, trivial⟩) (by kernel_rfl) ?_
 intro L P' Q' hL hP hQ
 (cbv; try simp only [syT, true_and, and_true])
 subst hL
 simp only [L2, L3, std, zjb]
 have h1 : lenN (za6 l s) = l.length + s.length := by simp [lenN, za6]
 have hl : l.length + s.length <= 90000000 := hl
 have h3 : lenN l = l.length := rfl
 rw [h1, h3]
 refine ⟨fun _ _ _ _ => trivial, by omega, ⟨rfl, fun i j hi hj => ?_⟩, rfl⟩
 by_cases h : i < l.length
 · rw [zvz h, show za6 l s = l ++ s from rfl, zo8 h]; rfl
 · rw [ykh h, show za6 l s = l ++ s from rfl, zo7 h]; rfl
theorem ynq (l : List UInt8) (h0 : l ≠ []) (hl : l.length <= 90000000) : zaq Tryz.prog 54 [.ref 500000 0] (bld std l) (.str l) [] := by
 refine zak (T := tt) (S := fun L => zb3 [] [yk1]) (lo := noA) (lb := noA) 5 (fn := Tryz.f54) (xs := fun L => [.ref 500000 0]) (rts := fun L => [.str l]) (O := fun L => bld L l) (O1 := fun L => [])
   rfl rfl (by kernel_rfl) (by kernel_rfl) (by kernel_rfl) zae (zaa trivial ⟨zl8, trivial⟩) (by kernel_rfl) ?_
 intro L P' Q' hL hP hQ
 (cbv; try simp only [syT, true_and, and_true])
 subst hL
 simp only [L2, L3, std]
 have h3 : lenN l = l.length := rfl
 have h1 : 0 < l.length := List.length_pos_iff.2 h0
 refine ⟨zvz h1, ⟨by show (0 : Int) < (l.length : Int); omega, by show (l.length : Int) <= (l.length : Int); omega, by show (l.length : Int) <= _; omega, fun i hi => ⟨_, rfl, ?_, ?_⟩⟩, zf0 l⟩
 · simp [zau]
 · have := UInt8.toNat_lt (l.getD i 0)
   show ((l.getD i 0).toNat : Int) < 256
   omega
theorem yns (l : List UInt8) : zaq Tryz.prog 53 [.ref 500000 0] (bld std l) (.int .i64 (slen l)) (bld std l) := by
 refine zak (T := tt) (S := fun L => zb3 [] [yk1]) (lo := noA) (lb := noA) 5 (fn := Tryz.f53) (xs := fun L => [.ref 500000 0]) (rts := fun L => [.int .i64 (L slen l)]) (O := fun L => bld L l) (O1 := fun L => bld L l)
   rfl rfl (by kernel_rfl) (by kernel_rfl) (by kernel_rfl) zae (zaa trivial ⟨zl8, trivial⟩) (by kernel_rfl) ?_
 intro L P' Q' hL hP hQ
 (cbv; try simp only [syT, true_and, and_true])
 subst hL
 exact ⟨fun _ _ _ _ => trivial, rfl⟩
theorem zwo : zcb Tryz.prog (yo7 std) := by
 intro raw ob T hT hp
 unfold yo7 at hT
 simp only at hT
 repeat' split at hT
 all_goals first | (cases hT; done) | (cases hT; exact yl9 _ hp) | (cases hT; exact yl8 _ _ hp.1 hp.2)
theorem zwj : zcb Tryz.prog (yo5 std) := by
 intro raw ob T hT hp
 unfold yo5 at hT
 simp only at hT
 repeat' split at hT
 all_goals first | (cases hT; done) | (cases hT; exact yl4 _ _ hp)
theorem ykf : zcb Tryz.prog (yqq std) := by
 intro raw ob T hT hp
 unfold yqq at hT
 simp only at hT
 repeat' split at hT
 all_goals first | (cases hT; done) | (cases hT; exact ynq _ hp.1 hp.2)
theorem yki : zcb Tryz.prog (yqr std) := by
 intro raw ob T hT hp
 unfold yqr at hT
 simp only at hT
 repeat' split at hT
 all_goals first | (cases hT; done) | (cases hT; exact yns _)
inductive CV where
 | mk (k n : Int) (s : List UInt8) (l : List CV)
namespace CV
def kd : CV -> Int
 | mk k _ _ _ => k
def nn : CV -> Int
 | mk _ n _ _ => n
def tx : CV -> List UInt8
 | mk _ _ s _ => s
def ls : CV -> List CV
 | mk _ _ _ l => l
theorem eta (v : CV) : mk v.kd v.nn v.tx v.ls = v := by cases v; rfl
end CV
def zf4 (l : List CV) (i : Nat) : CV := l.getD i (.mk 0 0 [] [])
def lenL (l : List CV) : Nat := l.length
def yca (v : CV) : Nat := v.ls.length
def sizeC : CV -> Nat
 | .mk _ _ _ l => sizeCs l + 1
where sizeCs : List CV -> Nat
 | [] => 0
 | v :: l => sizeC v + sizeCs l
abbrev sizeCs := sizeC.sizeCs
theorem zel : sizeCs [] = 0 := by simp [sizeC.sizeCs]
theorem zbv (v : CV) (l : List CV) : sizeCs (v :: l) = sizeC v + sizeCs l := by simp [sizeC.sizeCs]
theorem ze9 (k n : Int) (s : List UInt8) (l : List CV) : sizeC (.mk k n s l) = sizeCs l + 1 := by rw [sizeC]
theorem zem (v : CV) : 0 < sizeC v := by cases v; rw [ze9]; omega
theorem zk3 : ∀ (l : List CV) (i : Nat), i < l.length -> sizeC (zf4 l i) <= sizeCs l
 | [], i, h => by simp at h
 | v :: l, 0, h => by rw [zbv]; show sizeC v <= _; omega
 | v :: l, i + 1, h => by
   have := zk3 l i (by simpa using h)
   rw [zbv]
   show sizeC (zf4 l i) <= _
   omega
theorem zt3 {l : List CV} {i : Nat} (h : i < l.length) : zf4 l i ∈ l := by
 rw [zf4, List.getD_eq_getElem?_getD, List.getElem?_eq_getElem h]; exact List.getElem_mem h
theorem ygp {p : CV -> Prop} (h : ∀ k n s l, (∀ v ∈ l, p v) -> p (.mk k n s l)) : ∀ (m : Nat) (v : CV), sizeC v <= m -> p v
 | 0, v, hv => by have := zem v; omega
 | m + 1, .mk k n s l, hv => h k n s l fun w hw => by
   rw [ze9] at hv
   obtain ⟨i, hi, rfl⟩ := List.getElem_of_mem hw
   have := zk3 l i hi
   have e : zf4 l i = l[i] := by rw [zf4, List.getD_eq_getElem?_getD, List.getElem?_eq_getElem hi]; rfl
   rw [e] at this
   exact ygp h m _ (by omega)
theorem ygr {p : CV -> Prop} (h : ∀ k n s l, (∀ v ∈ l, p v) -> p (.mk k n s l)) (v : CV) : p v := ygp h _ v (Nat.le_refl _)
def dflC : Nat -> AV
 | 0 => .int .i64 0
 | 1 => .int .u64 0
 | 2 => .str []
 | _ => .lst 4 0 (fun _ _ => .dead)
mutual
def zez : CV -> Nat -> AV
 | .mk k n s l, j => match j with
   | 0 => .int .i64 k
   | 1 => .int .u64 n
   | 2 => .str s
   | _ => .lst 4 l.length (zho l)
def zho : List CV -> Nat -> Nat -> AV
 | [], _, j => dflC j
 | v :: l, i, j => match i with
   | 0 => zez v j
   | i + 1 => zho l i j
end
theorem zjq (v : CV) : zez v 0 = .int .i64 v.kd := by cases v; rw [zez]; rfl
theorem zjp (v : CV) : zez v 1 = .int .u64 v.nn := by cases v; rw [zez]; rfl
theorem zjo (v : CV) : zez v 2 = .str v.tx := by cases v; rw [zez]; rfl
theorem zjn (v : CV) : zez v 3 = .lst 4 v.ls.length (zho v.ls) := by cases v; rw [zez] <;> first | rfl | (intro h; cases h)
theorem zbs : ∀ (l : List CV) (i j : Nat), i < l.length -> zho l i j = zez (zf4 l i) j
 | [], i, j, h => by simp at h
 | v :: l, 0, j, h => by rw [zho]; rfl
 | v :: l, i + 1, j, h => by rw [zho]; exact zbs l i j (by simpa using h)
def yau (v : CV) : Nat -> Nat -> AV := zho v.ls
def cv1 (L : za8) (v : CV) : Nat -> AV
 | 0 => .int .i64 (L CV.kd v)
 | 1 => .int .u64 (L CV.nn v)
 | 2 => .str (L CV.tx v)
 | _ => .lst 4 (L yca v) (L yau v)
theorem yav (v : CV) (j : Nat) (h : j < 4) : cv1 std v j = zez v j := by
 match j, h with
 | 0, _ => rw [zjq]; rfl
 | 1, _ => rw [zjp]; rfl
 | 2, _ => rw [zjo]; rfl
 | 3, _ => rw [zjn]; rfl
def cvL (L : za8) (l : List CV) : AV := .lst 4 (L lenL l) (fun i j => cv1 L (L2 L zf4 l i) j)
def cvA (L : za8) (v : CV) : AV := .agg [.int .i64 (L CV.kd v), .int .u64 (L CV.nn v), .str (L CV.tx v), .lst 4 (L yca v) (L yau v)]
def rdL : AV -> List CV
 | .lst _ n get => (List.range n).map fun i => .mk (get i 0).toI (get i 1).toI (match get i 2 with | .str s => s | _ => []) (rdL (get i 3))
 | _ => []
def okL : AV -> Prop
 | .lst sz n get => sz = 4 /\ ∀ i, i < n -> (∃ x, get i 0 = .int .i64 x) /\ (∃ x, get i 1 = .int .u64 x) /\ (∃ x, get i 2 = .str x) /\ okL (get i 3)
 | .nils => True
 | _ => False
theorem zlw (sz n : Nat) (get : Nat -> Nat -> AV) : (rdL (.lst sz n get)).length = n := by simp [rdL]
theorem zy7 {sz n : Nat} {get : Nat -> Nat -> AV} {i : Nat} (h : i < n) : zf4 (rdL (.lst sz n get)) i = .mk (get i 0).toI (get i 1).toI (match get i 2 with | .str s => s | _ => []) (rdL (get i 3)) := by
 rw [zf4, List.getD_eq_getElem?_getD, rdL]
 simp [h]
theorem ygq {a b : List CV} (h : a.length = b.length) (k : ∀ i, i < a.length -> zf4 a i = zf4 b i) : a = b := by
 apply List.ext_getElem h
 intro i h1 h2
 have := k i h1
 rw [zf4, zf4, List.getD_eq_getElem?_getD, List.getD_eq_getElem?_getD, List.getElem?_eq_getElem h1, List.getElem?_eq_getElem h2] at this
 exact this
theorem yi0 : ∀ v : CV, rdL (zez v 3) = v.ls /\ okL (zez v 3) := by
 refine ygr fun k n s l ih => ?_
 rw [zjn]
 show rdL (.lst 4 l.length (zho l)) = l /\ okL (.lst 4 l.length (zho l))
 refine ⟨ygq (zlw _ _ _) fun i hi => ?_, rfl, fun i hi => ?_⟩
 · rw [zlw] at hi
   rw [zy7 hi, zbs _ _ _ hi, zbs _ _ _ hi, zbs _ _ _ hi, zbs _ _ _ hi, zjq, zjp, zjo, (ih _ (zt3 hi)).1]
   exact CV.eta _
 · rw [zbs _ _ _ hi, zbs _ _ _ hi, zbs _ _ _ hi, zbs _ _ _ hi, zjq, zjp, zjo]
   exact ⟨⟨_, rfl⟩, ⟨_, rfl⟩, ⟨_, rfl⟩, (ih _ (zt3 hi)).2⟩
theorem zn1 (v : CV) : rdL (.lst 4 (yca v) (yau v)) = v.ls /\ okL (.lst 4 (yca v) (yau v)) := by
 have := yi0 v
 rw [zjn] at this
 exact this
theorem zy8 (l : List CV) : rdL (cvL std l) = l /\ okL (cvL std l) := by
 refine ⟨ygq (zlw _ _ _) fun i hi => ?_, rfl, fun i hi => ⟨⟨_, rfl⟩, ⟨_, rfl⟩, ⟨_, rfl⟩, (zn1 _).2⟩⟩
 have hi : i < l.length := by rw [show (rdL (cvL std l)).length = lenL l from zlw _ _ _] at hi; exact hi
 show zf4 (rdL (.lst 4 (lenL l) _)) i = _
 rw [zy7 (show i < lenL l from hi)]
 show CV.mk (zf4 l i).kd (zf4 l i).nn (zf4 l i).tx (rdL (.lst 4 (yca (zf4 l i)) (yau (zf4 l i)))) = _
 rw [(zn1 _).1, CV.eta]
theorem yma {h : Array Obj} {D : Nat -> Prop} : ∀ (x : AV) {μ : Mu} {v : Value}, okL x -> R h D μ x v -> R h D μ (.lst 4 (rdL x).length (zho (rdL x))) v := by
 intro x μ v ho r
 induction r with
 | nils => exact .lst0 _ _ _ _ (fun _ => rfl)
 | lst0 sz get a cap hn => exact .lst0 _ _ _ _ hn
 | lst sz n get b o cap vs hD hc hv h1 hr ih =>
   obtain ⟨rfl, ho⟩ := ho
   rw [zlw]
   refine .lst _ _ _ b o cap vs hD hc hv h1 (fun i j hi hj => ?_)
   rw [zbs _ _ _ (by rw [zlw]; exact hi), zy7 hi]
   obtain ⟨⟨x0, e0⟩, ⟨x1, e1⟩, ⟨x2, e2⟩, o3⟩ := ho i hi
   have hj' := hr i j hi hj
   match j, hj with
   | 0, _ => rw [zjq]; rw [e0] at hj' |-; exact hj'
   | 1, _ => rw [zjp]; rw [e1] at hj' |-; exact hj'
   | 2, _ => rw [zjo]; rw [e2] at hj' |-; exact hj'
   | 3, _ => rw [zjn]; exact ih i 3 hi (by omega) o3
 | _ => exact ho.elim
theorem yng {h : Array Obj} {D : Nat -> Prop} {μ : Mu} {l : List CV} {v : Value} (r : R h D μ (.lst 4 l.length (zho l)) v) : R h D μ (cvL std l) v :=
 ztg r fun i j hi hj => by
   rw [zbs _ _ _ hi]
   exact (yav _ j hj).symm
mutual
def zfp : CV -> Int
 | .mk k _ _ l => if k = 3 then zbf l + 1 else 0
def zbf : List CV -> Int
 | [] => 0
 | v :: l => max (zfp v) (zbf l)
end
theorem zmj : ∀ a b : List CV, zbf (a ++ b) = max (zbf a) (zbf b)
 | [], b => by
   rw [List.nil_append, zbf]
   have : ∀ b : List CV, 0 <= zbf b := by
     intro b
     induction b with
     | nil => rw [zbf]; omega
     | cons v l ih => rw [zbf]; omega
   have := this b
   omega
 | v :: a, b => by rw [List.cons_append, zbf, zmj a b, zbf]; omega
theorem zse {l : List CV} {i : Nat} (h : i < l.length) : l.take (i + 1) = l.take i ++ [zf4 l i] := by
 rw [List.take_succ_eq_append_getElem h, zf4, List.getD_eq_getElem?_getD, List.getElem?_eq_getElem h]; rfl
def zgo (l : List CV) (i : Nat) : Int := zbf (l.take i)
theorem zrt {l : List CV} {i : Nat} (h : i < l.length) : zgo l (i + 1) = max (zgo l i) (zfp (zf4 l i)) := by
 unfold zgo
 rw [zse h, zmj, zbf, zbf]
 have : 0 <= zfp (zf4 l i) \/ True := .inr trivial
 have h0 : ∀ b : List CV, 0 <= zbf b := by
   intro b
   induction b with
   | nil => rw [zbf]; omega
   | cons v l ih => rw [zbf]; omega
 have := h0 (l.take i)
 omega
mutual
def zhu : CV -> Bool
 | .mk k n s l => if k = 1 then decide (s = []) && l.isEmpty else if k = 2 then decide (n = 0) && l.isEmpty else if k = 3 then decide (n = 0) && decide (s = []) && zf1 l else false
def zf1 : List CV -> Bool
 | [] => true
 | v :: l => zhu v && zf1 l
end
def zl9 (k : Int) : List UInt8 := [UInt8.ofNat (k % 256).toNat]
mutual
def zds : CV -> List UInt8
 | .mk k n s l => zl9 k ++ if k = 1 then zbb n else if k = 2 then zbb s.length ++ s else zbb l.length ++ zd8 l
def zd8 : List CV -> List UInt8
 | [] => []
 | v :: l => zds v ++ zd8 l
end
theorem zi2 : ∀ a b : List CV, zd8 (a ++ b) = zd8 a ++ zd8 b
 | [], b => by rw [zd8]; rfl
 | v :: a, b => by rw [List.cons_append, zd8, zi2 a b, zd8, List.append_assoc]
def zgl (l : List CV) (i : Nat) : List UInt8 := zd8 (l.take i)
theorem zdt {l : List CV} {i : Nat} (h : i < l.length) : zgl l (i + 1) = zgl l i ++ zds (zf4 l i) := by
 unfold zgl
 rw [zse h, zi2, zd8, zd8, List.append_nil]
def mkV (L : za8) (k n : Int) (s : List UInt8) (x : AV) : CV := L (L (L (L CV.mk k) n) s) (L rdL x)
def zoi (N : Nat) (v : CV) : Prop := sizeC v <= N /\ N <= 1000000
def zqp (N : Nat) (l : List CV) : Prop := sizeCs l <= N /\ N <= 1000000
theorem zm3 : ∀ l : List CV, l.length <= sizeCs l
 | [] => by simp
 | v :: l => by
   have := zm3 l
   have := zem v
   rw [zbv, List.length_cons]; omega
theorem zt2 {N : Nat} {l : List CV} {i : Nat} (h : zqp N l) (hi : i < l.length) : zoi N (zf4 l i) := by
 have := zk3 l i hi
 exact ⟨by have := h.1; omega, h.2⟩
theorem zcf {N : Nat} {k n : Int} {s : List UInt8} {l : List CV} : zoi (N + 1) (.mk k n s l) = (zqp N l /\ N + 1 <= 1000000) := by
 unfold zoi zqp
 rw [ze9]
 exact propext ⟨fun h => ⟨⟨by omega, by omega⟩, by omega⟩, fun h => ⟨by have := h.1.1; omega, h.2⟩⟩
theorem zfd (v : CV) : CV.mk v.kd v.nn v.tx (rdL (.lst 4 (yca v) (yau v))) = v := by rw [(zn1 v).1]; exact CV.eta v
theorem zc9 (v : CV) : mkV std v.kd v.nn v.tx (.lst 4 (yca v) (yau v)) = v := zfd v
theorem rdl (l : List CV) : rdL (.lst 4 (lenL l) fun i => cv1 std (zf4 l i)) = l := (zy8 l).1
theorem okl (l : List CV) : okL (.lst 4 (lenL l) fun i => cv1 std (zf4 l i)) := (zy8 l).2
theorem mkl (k n : Int) (s : List UInt8) (l : List CV) : mkV std k n s (.lst 4 (lenL l) fun i => cv1 std (zf4 l i)) = .mk k n s l := by
 show CV.mk k n s (rdL _) = _
 rw [rdl]
theorem yh6 {h : Array Obj} {D : Nat -> Prop} {μ : Mu} {a b c x : AV} {v : Value} (ho : okL x) (r : R h D μ (.agg [a, b, c, x]) v) : R h D μ (.agg [a, b, c, cvL std (rdL x)]) v := by
 obtain ⟨us, rfl, o1, s1, hr⟩ := r.inv_agg
 refine .agg _ _ (by rw [<- s1]; rfl) o1 fun i y v hy hv => ?_
 match i, hy with
 | 0, hy => cases hy; exact hr 0 _ v rfl hv
 | 1, hy => cases hy; exact hr 1 _ v rfl hv
 | 2, hy => cases hy; exact hr 2 _ v rfl hv
 | 3, hy => cases hy; exact yng (yma x ho (hr 3 _ v rfl hv))
 | i + 4, hy => simp at hy
theorem yp8 {h : Array Obj} {D : Nat -> Prop} {μ : Mu} {x y : AV} {r : List AV} {vs : Array Value} (e : ∀ v, R h D μ x v -> R h D μ y v) (hr : RL h D μ (x :: r) vs) : RL h D μ (y :: r) vs := by
 refine ⟨by rw [<- hr.1]; rfl, fun i z v hz hv => ?_⟩
 cases i with
 | zero => cases hz; exact e v (hr.2 0 x v rfl hv)
 | succ i => exact hr.2 (i + 1) z v hz hv
theorem rl_2 {h : Array Obj} {D : Nat -> Prop} {μ : Mu} {a x y : AV} {r : List AV} {vs : Array Value} (e : ∀ v, R h D μ x v -> R h D μ y v) (hr : RL h D μ (a :: x :: r) vs) : RL h D μ (a :: y :: r) vs := by
 refine ⟨by rw [<- hr.1]; rfl, fun i z v hz hv => ?_⟩
 match i, hz with
 | 0, hz => exact hr.2 0 z v hz hv
 | 1, hz => cases hz; exact e v (hr.2 1 x v rfl hv)
 | i + 2, hz => exact hr.2 (i + 2) z v hz hv
theorem zhx {P : Program} {f : FuncId} {xs ys : List AV} {r : AV} (h : ∀ h D vs, RL h D zap xs vs -> RL h D zap ys vs) (ha : zab P f ys r) : zab P f xs r := fun D w vs hD hx => ha D w vs hD (h _ _ _ hx)
theorem yoj {P : Program} {f : FuncId} {a b c x r : AV} (ho : okL x) (h : zab P f [.agg [a, b, c, cvL std (rdL x)]] r) : zab P f [.agg [a, b, c, x]] r :=
 zhx (fun h D vs hr => yp8 (fun v => yh6 ho) hr) h
theorem ymp {h : Array Obj} {D : Nat -> Prop} {μ : Mu} {x : AV} {v : Value} (ho : okL x) (r : R h D μ x v) : R h D μ (cvL std (rdL x)) v := yng (yma x ho r)
theorem yok {P : Program} {f : FuncId} {x r : AV} {q : List AV} (ho : okL x) (h : zab P f (cvL std (rdL x) :: q) r) : zab P f (x :: q) r :=
 zhx (fun h D vs hr => yp8 (fun v => ymp ho) hr) h
def yqd (L : za8) (l : List CV) : Nat -> St -> Option Ann := fun id s => match id with
 | 0 => some ⟨Nat, fun i => [(12, .int .i64 (L zac i)), (3, .int .i64 (L2 L zgo l i))], fun i => [], [10, 11], [],
     fun i => L2 L (fun (l : List CV) i => i <= l.length) l i, fun i => L2 L (fun (l : List CV) (i : Nat) => l.length - i) l i⟩
 | _ => none
def zq6 (N : Nat) (L : za8) : zcu := (51, fun xs => match xs with
 | [.agg [.int .i64 k, .int .u64 n, .str s, x]] => some (L okL x /\ L2 L zoi N (mkV L k n s x), .int .i64 (L zfp (mkV L k n s x)))
 | _ => none)
theorem yjv : ∀ v, 0 <= zfp v /\ zfp v <= (sizeC v : Int) := by
 refine ygr fun k n s l ih => ?_
 have : ∀ m : List CV, (∀ v ∈ m, 0 <= zfp v /\ zfp v <= (sizeC v : Int)) -> 0 <= zbf m /\ zbf m <= (sizeCs m : Int) := by
   intro m
   induction m with
   | nil => intro _; rw [zbf, zel]; omega
   | cons v m ih =>
     intro h
     have h1 := h v (by simp)
     have h2 := ih fun w hw => h w (by simp [hw])
     rw [zbf, zbv]; omega
 have := this l ih
 rw [zfp, ze9]
 split <;> omega
theorem yat (l : List CV) (i : Nat) : 0 <= zgo l i /\ zgo l i <= (sizeCs l : Int) := by
 have h1 : ∀ m : List CV, 0 <= zbf m /\ zbf m <= (sizeCs m : Int) := by
   intro m
   induction m with
   | nil => rw [zbf, zel]; omega
   | cons v m ih => have := yjv v; rw [zbf, zbv]; omega
 have h2 := h1 (l.take i)
 have h3 : ∀ (m : List CV) (i : Nat), sizeCs (m.take i) <= sizeCs m := by
   intro m
   induction m with
   | nil => intro i; simp
   | cons v m ih =>
     intro i
     cases i with
     | zero => rw [List.take_zero, zel]; omega
     | succ i => have := ih i; rw [List.take_succ_cons, zbv, zbv]; omega
 have := h3 l i
 exact ⟨h2.1, by unfold zgo; omega⟩
theorem yas : ∀ N, zd7 Tryz.prog (zq6 N std) := by
 intro N
 induction N with
 | zero =>
   intro xs p r h hp
   unfold zq6 at h
   simp only at h
   split at h
   · rename_i k n s x
     cases h
     have h1 : sizeC (mkV std k n s x) <= 0 := hp.2.1
     have := zem (mkV std k n s x)
     omega
   · cases h
 | succ N ih =>
   intro xs p r h hp
   unfold zq6 at h
   simp only at h
   split at h
   · rename_i k n s x
     cases h
     obtain ⟨ho, hz⟩ := hp
     refine yoj ho ?_
     show zab _ _ _ (.int .i64 (zfp (.mk k n s (rdL x))))
     have hz : zoi (N + 1) (.mk k n s (rdL x)) := hz
     generalize rdL x = l at hz |-
     refine zas (T := tt) (S := fun L => zbe [zq6 N L]) (lo := fun L => yqd L l) (lb := noA) 5 (fn := Tryz.f51) (xs := fun L => [.agg [.int .i64 k, .int .u64 n, .str s, cvL L l]]) rfl rfl (by kernel_rfl) (by kernel_rfl) rfl zae
       (za7 ⟨ih, trivial⟩) (by kernel_rfl) ?_
     intro L P' Q' hL hP hQ
     (cbv; try simp only [syT, true_and, and_true])
     refine ⟨fun h => ?_, fun h => ⟨⟨0, ?_⟩, fun i hi => ?_⟩⟩
     · (subst hL; subst hQ; simp only [L2, L3, std] at *; try simp only [syS, reduceCtorEq, Int.reduceToNat, Int.reduceAdd, Int.reduceSub] at *)
       rw [zfp, if_neg h]
     · (cbv; try simp only [syT, true_and, and_true])
       (subst hL; subst hQ; simp only [L2, L3, std] at *; try simp only [syS, reduceCtorEq, Int.reduceToNat, Int.reduceAdd, Int.reduceSub] at *)
       exact ⟨by rw [zgo, List.take_zero, zbf], Nat.zero_le _⟩
     · cbv at hi
       (cbv; try simp only [syT, true_and, and_true])
       refine ⟨fun hlt => ⟨?_, ⟨?_, ?_⟩, ⟨i + 1, ?_⟩⟩, fun hge => ?_⟩
       · (subst hL; subst hQ; simp only [L2, L3, std] at *; try simp only [syS, reduceCtorEq, Int.reduceToNat, Int.reduceAdd, Int.reduceSub] at *)
         omega
       · (subst hL; subst hQ; simp only [L2, L3, std] at *; try simp only [syS, reduceCtorEq, Int.reduceToNat, Int.reduceAdd, Int.reduceSub] at *)
         exact (zn1 _).2
       · (subst hL; subst hQ; simp only [L2, L3, std] at *; try simp only [syS, reduceCtorEq, Int.reduceToNat, Int.reduceAdd, Int.reduceSub] at *)
         rw [zfd]
         rw [zcf] at hz
         exact zt2 hz.1 (by have : lenL l = l.length := rfl; omega)
       · (cbv; try simp only [syT, true_and, and_true])
         (subst hL; subst hQ; simp only [L2, L3, std] at *; try simp only [syS, reduceCtorEq, Int.reduceToNat, Int.reduceAdd, Int.reduceSub] at *)
         have : lenL l = l.length := rfl
         have := zm3 l
         have h1 := hz.1
         have h2 := hz.2
         rw [ze9] at h1
         rw [zc9]
         exact ⟨by rw [zrt (by omega)], by omega, by omega, by omega⟩
       · (subst hL; subst hQ; simp only [L2, L3, std] at *; try simp only [syS, reduceCtorEq, Int.reduceToNat, Int.reduceAdd, Int.reduceSub] at *)
         have : lenL l = l.length := rfl
         have hil : i = l.length := by omega
         have h3 := yat l i
         have h1 := hz.1
         have h2 := hz.2
         rw [ze9] at h1
         rw [zfp, if_pos h, hil, zgo, List.take_length]
         rw [hil, zgo, List.take_length] at h3
         omega
   · cases h
def okG {α : Type} (V : Vw α) : AV -> Prop
 | .agg cs => cs.length = V.sz /\ V.ok (fun j => zc3 .dead cs j)
 | _ => False
def rdG {α : Type} (V : Vw α) : AV -> α
 | .agg cs => V.rd (fun j => zc3 .dead cs j)
 | _ => V.d
theorem zzk (cs : List AV) (j : Nat) : zc3 .dead cs j = (cs[j]?).getD .dead := by
 induction cs generalizing j with
 | nil => cases j <;> rfl
 | cons x l ih => cases j with
   | zero => rfl
   | succ j => exact ih j
theorem gK {α : Type} {V : Vw α} (K : yby V) (x : α) (cs : List AV) (h : cs = (List.range V.sz).map (V.cell std x)) : okG V (.agg cs) /\ rdG V (.agg cs) = x := by
 have h1 : ∀ j, j < V.sz -> zc3 .dead cs j = V.cell std x j := fun j hj => by rw [zzk, h]; simp [hj]
 have h2 := K.back _ x h1
 exact ⟨⟨by simp [h], h2.1⟩, h2.2⟩
theorem G_R {α : Type} {V : Vw α} (K : yby V) {x : AV} (ho : okG V x) {h : Array Obj} {D : Nat -> Prop} {μ : Mu} {v : Value} (r : R h D μ x v) : R h D μ (.agg ((List.range V.sz).map (V.cell std (rdG V x)))) v := by
 match x, ho with
 | .agg cs, ho =>
   obtain ⟨us, rfl, o1, s1, hr⟩ := r.inv_agg
   refine .agg _ _ (by rw [<- s1]; simp [ho.1]) o1 fun i y w hy hw => ?_
   have hi : i < V.sz := by
     have := (List.getElem?_eq_some_iff.1 hy).1
     simpa using this
   simp [hi] at hy
   subst hy
   have hc : cs[i]? = some (zc3 .dead cs i) := by
     rw [zzk, List.getElem?_eq_getElem (by rw [ho.1]; exact hi)]; rfl
   exact K.turn _ ho.2 i hi _ _ _ _ (hr i _ w hc hw)
theorem ac_g {α : Type} {V : Vw α} (K : yby V) {P : Program} {f : FuncId} {x r : AV} {q : List AV} (ho : okG V x) (h : zab P f (.agg ((List.range V.sz).map (V.cell std (rdG V x))) :: q) r) : zab P f (x :: q) r :=
 zhx (fun h D vs hr => yp8 (fun v => G_R K ho) hr) h
def zfc (n : Nat) (g : Nat -> Nat -> AV) : List Int := (List.range n).map fun i => (g i 0).toI
def byG (n : Nat) (g : Nat -> Nat -> AV) : Prop := ∀ i, i < n -> ∃ x, g i 0 = .int .u8 x
def bcI (l m : List Int) : Int := Lib.compareBytes (prB l) (prB m)
theorem ybm {P : Program} {w : World} {D : Nat -> Prop} {μ : Mu} {n : Nat} {g : Nat -> Nat -> AV} {v : Value} (hg : byG n g) (r : R w.heap D μ (.lst 1 n g) v) : (Extern.Bytes.bytesOf v).run P w = .ok ⟨(prB (zfc n g)).toArray⟩ w := by
 cases r with
 | lst0 _ _ a cap hn =>
   cases a with
   | none => simp [Extern.Bytes.bytesOf, zfc, prB]; rfl
   | some a => simp [Extern.Bytes.bytesOf, Extern.Bytes.loadBytes, zfc, prB]; rfl
 | lst _ _ _ b o cap vs hD hc hv h1 hr =>
   have hl := Lib.run_loadBytesX (P := P) w (zfc n g) ⟨b, o, none⟩ .empty (fun j x hj => by
     have hjl : j < n := by
       have := (List.getElem?_eq_some_iff.1 hj).1
       simpa [zfc] using this
     have e : (⟨b, o, none⟩ : Addr).add j = ⟨b, o + j, none⟩ := by unfold Addr.add; split <;> simp_all
     have h2 := hv j 0 hjl (by omega)
     have h3 := hr j 0 hjl (by omega)
     obtain ⟨y, hy⟩ := hg j hjl
     rw [hy] at h3
     generalize vs j 0 = z at h2 h3
     have hx : x = y := by
       have : (zfc n g)[j]? = some y := by simp [zfc, hjl, hy, AV.toI]
       rw [this] at hj
       cases hj; rfl
     rw [e, zfn]
     show hcell w.heap b (o + j) = _
     rw [show o + j = o + j * 1 + 0 by omega, h2]
     cases h3
     rw [hx])
   rw [show (zfc n g).length = n by simp [zfc]] at hl
   show (Extern.Bytes.loadBytes ⟨b, o, none⟩ n .empty).run P w = _
   rw [hl]
   congr 1
   apply ByteArray.ext
   show (#[] : Array UInt8) ++ (Lib.bytesOf (zfc n g)).toArray = (prB (zfc n g)).toArray
   simp [Lib.bytesOf, prB]
def yfd (L : za8) : zcu := (62, fun xs => match xs with
 | [.lst 1 n g, .lst 1 m k] => some (L2 L byG n g /\ L2 L byG m k, .int .i64 (L2 L bcI (L2 L zfc n g) (L2 L zfc m k)))
 | _ => none)
theorem yfe : zd7 Tryz.prog (yfd std) := by
 intro xs p r h hp
 dsimp only [yfd] at h
 split at h
 rotate_left
 · cases h
 rename_i n g m k
 cases h
 obtain ⟨hg, hk⟩ := hp
 have h1 : Tryz.prog.funcs[62]? = some Tryz.f62 := rfl
 have h2 : (Tryz.f62.name == "runtime.NumGoroutine") = false := by kernel_rfl
 have h3 : Tryz.f62.body.isNone = true := by kernel_rfl
 have h4 : Extern.findNext Tryz.f62 = none := by kernel_rfl
 have h5 : Extern.find Tryz.f62 = some Extern.BytealgCompare.compare := by kernel_rfl
 intro D w vs hD hxs hgo
 obtain ⟨v, u, hv⟩ : ∃ v u, vs.toList = [v, u] := by
   have hl : vs.toList.length = 2 := by simpa using hxs.1.symm
   match vs.toList, hl with
   | [a, b], _ => exact ⟨a, b, rfl⟩
 have : vs = #[v, u] := by rw [<- Array.toArray_toList (xs := vs), hv]
 subst this
 have r1 : R w.heap D zap (.lst 1 n g) v := hxs.2 0 _ v rfl rfl
 have r2 : R w.heap D zap (.lst 1 m k) u := hxs.2 1 _ u rfl rfl
 have key : (Extern.BytealgCompare.compare #[v, u]).run Tryz.prog w = .ok (.int .i64 (bcI (zfc n g) (zfc m k))) w := by
   change Sem.run Tryz.prog (do pure (goInt (Extern.BytealgCompare.cmp (<- Extern.Bytes.bytesOf v) (<- Extern.Bytes.bytesOf u)))) w = _
   simp only [Sem.run_bind, ybm hg r1, ybm hk r2, Sem.run_pure, Result.andThen]
   rw [Lib.cmp_eq]; rfl
 unfold ze5
 rw [show (yfd std).fst = 62 from rfl, run_callFunc_extern h1 h2 h3 h4 h5, key]
 exact ⟨_, D, rfl, Below.refl _ _, fun _ h => h, fun b hb => .inl hb, .int _ _⟩
def yqs (L : za8) : zcu := (45, fun xs => match xs with
 | [.lst 1 n g, .lst 1 m k] => some (L2 L byG n g /\ L2 L byG m k, .int .i64 (L2 L bcI (L2 L zfc n g) (L2 L zfc m k)))
 | _ => none)
theorem ykj : zd7 Tryz.prog (yqs std) := by
 intro xs p r h hp
 dsimp only [yqs] at h
 split at h
 rotate_left
 · cases h
 rename_i n g m k
 cases h
 refine za9 (T := tt) (S := fun L => zbe [yfd L]) (lo := noA) (lb := noA) 5 (fn := Tryz.f45) rfl rfl (by kernel_rfl) (by kernel_rfl) rfl zae (za7 ⟨yfe, trivial⟩) (by kernel_rfl) ?_
 (intro L P1 Q1 hL hP hQ; cbv; subst hL; simp only [L2, L3, std, syT]; subst hQ)
 (simp only [syS, reduceCtorEq, Int.reduceToNat, Int.reduceAdd, Int.reduceSub])
 exact ⟨hp, rfl⟩
def za0 (p : Pr) (j : Nat) : Int := za1 p.1 j
def prZ : Pr := ⟨[0, 0, 0, 0, 0, 0, 0, 0, 0, 0, 0, 0, 0, 0, 0, 0], rfl⟩
def prC (L : za8) (p : Pr) (j : Nat) : AV := .int .u8 (L2 L za0 p j)
def yd7 (c : Nat -> AV) : Pr := ⟨(List.range 16).map fun j => (c j).toI, by simp⟩
def prV : Vw Pr := ⟨16, prC, yd7, fun c => ∀ j, j < 16 -> isI .u8 (c j), prZ⟩
def leC (L : za8) (x : Le) (j : Nat) : AV := match zbc j 16 with
 | true => .int .u8 (L2 L za0 (L Le.p x) j)
 | false => match zam j 16 with
   | true => .int .i64 (L Le.d x)
   | false => .bool (L Le.h x)
def toB (x : AV) : Bool := match x with | .bool b => b | _ => false
def isB (x : AV) : Prop := ∃ b, x = .bool b
def leV : Vw Le := ⟨18, leC, fun c => ⟨yd7 c, (c 16).toI, toB (c 17)⟩, fun c => (∀ j, j < 16 -> isI .u8 (c j)) /\ isI .i64 (c 16) /\ isB (c 17), ⟨prZ, 0, false⟩⟩
theorem zqw {c : Nat -> AV} {j : Nat} (hj : j < 16) : za0 (yd7 c) j = (c j).toI := by
 unfold za0 yd7 za1
 simp [List.getD_eq_getElem?_getD, hj]
theorem zor {c : Nat -> AV} {x : Pr} (h : ∀ j, j < 16 -> c j = .int .u8 (za0 x j)) : yd7 c = x := by
 apply Subtype.ext
 apply List.ext_getElem
 · rw [(yd7 c).2, x.2]
 · intro i h1 h2
   have hi : i < 16 := by rw [x.2] at h2; exact h2
   have e := zqw (c := c) hi
   rw [h i hi] at e
   unfold za0 za1 at e
   simp only [List.getD_eq_getElem?_getD, List.getElem?_eq_getElem h1, List.getElem?_eq_getElem h2, Option.getD_some, AV.toI] at e
   exact e
theorem ziv : yby prV := by
 refine ⟨fun c hc j hj h D μ v r => ?_, fun c x hx => ⟨fun j hj => ⟨_, hx j hj⟩, zor hx⟩⟩
 show R h D μ (.int .u8 (za0 (yd7 c) j)) v
 rw [zqw hj]
 exact yj4 (hc j hj) r
theorem ymr (x : Le) {j : Nat} (h : j < 16) : leC std x j = .int .u8 (za0 x.p j) := by
 unfold leC
 rw [zvz h]; rfl
theorem ze0 : yby leV := by
 refine ⟨fun c hc j hj h D μ v r => ?_, fun c x hx => ?_⟩
 · obtain ⟨h0, h1, h2⟩ := hc
   by_cases hlt : j < 16
   · show R h D μ (leC std _ j) v
     rw [ymr _ hlt]
     show R h D μ (.int .u8 (za0 (yd7 c) j)) v
     rw [zqw hlt]
     exact yj4 (h0 j hlt) r
   · have hj : j < 18 := hj
     have : j = 16 \/ j = 17 := by omega
     rcases this with rfl | rfl
     · exact yj4 h1 r
     · obtain ⟨b, hb⟩ := h2
       rw [hb] at r
       show R h D μ (.bool (toB (c 17))) v
       rw [hb]; exact r
 · have hp : ∀ j, j < 16 -> c j = .int .u8 (za0 x.p j) := fun j hj => by rw [hx j (by show j < 18; omega)]; exact ymr x hj
   have e16 := hx 16 (by decide)
   have e17 := hx 17 (by decide)
   refine ⟨⟨fun j hj => ⟨_, hp j hj⟩, ⟨_, e16⟩, ⟨_, e17⟩⟩, ?_⟩
   show Le.mk (yd7 c) (c 16).toI (toB (c 17)) = x
   rw [zor hp, e16, e17]; rfl
def zao (l : List Le) (i : Nat) : Le := zyt leV l i
def zci (L : za8) (l : List Le) : AV := .lst 18 (L zf5 l) (fun i => leC L (L (L zao l) i))
def ze7 (x : AV) : Prop := okW leV x
def zaf (x : AV) : List Le := rdW leV x
def zdc (x : AV) : Prop := okG leV x
def zbt (x : AV) : Le := rdG leV x
def zcl (x : AV) : Prop := okG prV x
def zal (x : AV) : Pr := rdG prV x
theorem zh6 (l : List Le) : zaf (.lst 18 (zf5 l) fun i => leC std (zao l i)) = l := (zy9 ze0 l).2
theorem zlg (l : List Le) : ze7 (.lst 18 (zf5 l) fun i => leC std (zao l i)) := (zy9 ze0 l).1
theorem zga {l : List Le} {i : Nat} (h : i < l.length) : zao l i = l[i] := zi9 (V := leV) h
def zot (L : za8) (p : Pr) : AV := .agg [.int .u8 (L2 L za0 p 0), .int .u8 (L2 L za0 p 1), .int .u8 (L2 L za0 p 2), .int .u8 (L2 L za0 p 3), .int .u8 (L2 L za0 p 4), .int .u8 (L2 L za0 p 5), .int .u8 (L2 L za0 p 6), .int .u8 (L2 L za0 p 7), .int .u8 (L2 L za0 p 8), .int .u8 (L2 L za0 p 9), .int .u8 (L2 L za0 p 10), .int .u8 (L2 L za0 p 11), .int .u8 (L2 L za0 p 12), .int .u8 (L2 L za0 p 13), .int .u8 (L2 L za0 p 14), .int .u8 (L2 L za0 p 15)]
def leA (L : za8) (x : Le) : AV := .agg [.int .u8 (L2 L za0 (L Le.p x) 0), .int .u8 (L2 L za0 (L Le.p x) 1), .int .u8 (L2 L za0 (L Le.p x) 2), .int .u8 (L2 L za0 (L Le.p x) 3), .int .u8 (L2 L za0 (L Le.p x) 4), .int .u8 (L2 L za0 (L Le.p x) 5), .int .u8 (L2 L za0 (L Le.p x) 6), .int .u8 (L2 L za0 (L Le.p x) 7), .int .u8 (L2 L za0 (L Le.p x) 8), .int .u8 (L2 L za0 (L Le.p x) 9), .int .u8 (L2 L za0 (L Le.p x) 10), .int .u8 (L2 L za0 (L Le.p x) 11), .int .u8 (L2 L za0 (L Le.p x) 12), .int .u8 (L2 L za0 (L Le.p x) 13), .int .u8 (L2 L za0 (L Le.p x) 14), .int .u8 (L2 L za0 (L Le.p x) 15), .int .i64 (L Le.d x), .bool (L Le.h x)]
theorem zqy (p : Pr) : [za0 p 0, za0 p 1, za0 p 2, za0 p 3, za0 p 4, za0 p 5, za0 p 6, za0 p 7, za0 p 8, za0 p 9, za0 p 10, za0 p 11, za0 p 12, za0 p 13, za0 p 14, za0 p 15] = p.1 := by
 obtain ⟨l, hl⟩ := p
 match l, hl with
 | [a0, a1, a2, a3, a4, a5, a6, a7, a8, a9, a10, a11, a12, a13, a14, a15], _ => rfl
theorem zgr (p : Pr) : AV.agg ((List.range prV.sz).map (prV.cell std p)) = zot std p := rfl
theorem zzl (x : Le) : AV.agg ((List.range leV.sz).map (leV.cell std x)) = leA std x := rfl
theorem zbh (p : Pr) : zcl (zot std p) /\ zal (zot std p) = p := gK ziv p _ rfl
theorem zbi (x : Le) : zdc (leA std x) /\ zbt (leA std x) = x := gK ze0 x _ rfl
theorem yp6 {h : Array Obj} {D : Nat -> Prop} {x y y' : AV} {xs : List AV} {vs : Array Value} (k : ∀ v, R h D zap y v -> R h D zap y' v) (hr : RL h D zap (x :: y :: xs) vs) : RL h D zap (x :: y' :: xs) vs := by
 refine ⟨hr.1, fun i z v hz hv => ?_⟩
 match i, hz with
 | 0, hz => exact hr.2 0 z v hz hv
 | 1, hz => cases hz; exact k v (hr.2 1 y v rfl hv)
 | i + 2, hz => exact hr.2 (i + 2) z v hz hv
theorem zqh {α : Type} {V : Vw α} (K : yby V) {P : Program} {f : FuncId} {y x r : AV} {q : List AV} (ho : okG V x) (h : zab P f (y :: .agg ((List.range V.sz).map (V.cell std (rdG V x))) :: q) r) : zab P f (y :: x :: q) r :=
 zhx (fun h D vs hr => yp6 (fun v => G_R K ho) hr) h
def zov (p q : Pr) : Int := if prN p < prN q then -1 else if prN q < prN p then 1 else 0
def ynj (p q : Pr) : Prop := zgm p /\ zgm q
def yir (L : za8) : zcu := (44, fun xs => match xs with
 | [x, q] => some (L zdc x /\ L zcl q /\ L2 L ynj (L Le.p (L zbt x)) (L zal q), .int .i64 (L2 L zov (L Le.p (L zbt x)) (L zal q)))
 | _ => none)
theorem ye8 : zd7 Tryz.prog (yir std) := by
 intro xs p r h hp
 dsimp only [yir] at h |-
 split at h <;> cases h
 try simp only [L2, L3, std] at hp |-
 rename_i x q
 obtain ⟨o1, o2, o3⟩ := hp
 refine ac_g ze0 o1 (zqh ziv o2 ?_)
 rw [zgr, zzl]
 have o3 : ynj (zbt x).p (zal q) := o3
 show zab _ _ [leA std (zbt x), zot std (zal q)] (.int .i64 (zov (zbt x).p (zal q)))
 generalize zbt x = e at o3 |-
 generalize zal q = p at o3 |-
 refine zas (T := tt) (S := fun L => zbe [yqs L]) (lo := noA) (lb := noA) 5 (fn := Tryz.f44) (xs := fun L => [leA L e, zot L p]) rfl rfl (by kernel_rfl) (by kernel_rfl) rfl zae (za7 ⟨ykj, trivial⟩) (by kernel_rfl) ?_
 intro L P' Q' hL hP hQ
 have hc := yay (p := e.p.1) (q := p.1) (by rw [e.p.2, p.2]) o3.1 o3.2
 (cbv; try simp only [syT, true_and, and_true])
 (subst hL; subst hQ; simp only [L2, L3, std] at *; try simp only [syS, reduceCtorEq, Int.reduceToNat, Int.reduceAdd, Int.reduceSub] at *)
 refine ⟨⟨fun i _ => ⟨_, rfl⟩, fun i _ => ⟨_, rfl⟩⟩, ?_⟩
 rw [show (zfc 16 fun i x => AV.int IntKind.u8 (za1 [za0 e.p 0, za0 e.p 1, za0 e.p 2, za0 e.p 3, za0 e.p 4, za0 e.p 5, za0 e.p 6, za0 e.p 7, za0 e.p 8, za0 e.p 9, za0 e.p 10, za0 e.p 11, za0 e.p 12, za0 e.p 13, za0 e.p 14, za0 e.p 15] i)) = e.p.1 from zqy e.p,
   show (zfc 16 fun i x => AV.int IntKind.u8 (za1 [za0 p 0, za0 p 1, za0 p 2, za0 p 3, za0 p 4, za0 p 5, za0 p 6, za0 p 7, za0 p 8, za0 p 9, za0 p 10, za0 p 11, za0 p 12, za0 p 13, za0 p 14, za0 p 15] i)) = p.1 from zqy p]
 exact hc
theorem yi6 (y z : Pr) : (and (ieq (za0 y 0) (za0 z 0)) (and (ieq (za0 y 1) (za0 z 1)) (and (ieq (za0 y 2) (za0 z 2)) (and (ieq (za0 y 3) (za0 z 3)) (and (ieq (za0 y 4) (za0 z 4)) (and (ieq (za0 y 5) (za0 z 5)) (and (ieq (za0 y 6) (za0 z 6)) (and (ieq (za0 y 7) (za0 z 7)) (and (ieq (za0 y 8) (za0 z 8)) (and (ieq (za0 y 9) (za0 z 9)) (and (ieq (za0 y 10) (za0 z 10)) (and (ieq (za0 y 11) (za0 z 11)) (and (ieq (za0 y 12) (za0 z 12)) (and (ieq (za0 y 13) (za0 z 13)) (and (ieq (za0 y 14) (za0 z 14)) (and (ieq (za0 y 15) (za0 z 15)) (true))))))))))))))))) = decide (y = z) := by
 have key : ((List.range 16).all fun j => ieq (za0 y j) (za0 z j)) = decide (y = z) := by
   by_cases h : y = z
   · rw [decide_eq_true h, List.all_eq_true]
     intro j _
     rw [zpn, h]
   · rw [decide_eq_false h, List.all_eq_false]
     refine Classical.byContradiction fun hc => h ?_
     apply Subtype.ext
     apply List.ext_getElem
     · rw [y.2, z.2]
     · intro i h1 h2
       have hi : i < 16 := by rw [y.2] at h1; exact h1
       have h3 : ieq (za0 y i) (za0 z i) = true := Classical.byContradiction fun h4 => hc ⟨i, List.mem_range.2 hi, h4⟩
       rw [zpn] at h3
       unfold za0 za1 at h3
       simpa [List.getD_eq_getElem?_getD, List.getElem?_eq_getElem h1, List.getElem?_eq_getElem h2] using h3
 rw [<- key]
 rfl
def zdz (l : List Le) : Prop := l.length <= 1000000
def ze1 (l : List Le) (p : Pr) : Int := zcp (prN p) l
def ztp (l : List Le) (p : Pr) : Bool := zbr p l
def lbIn (l : List Le) (p : Pr) (x : Nat × Nat) : Prop := x.1 <= zcp (prN p) l /\ zcp (prN p) l <= x.2 /\ x.2 <= l.length
def lbGo (x : Nat × Nat) : Nat := x.2 - x.1
def lbsA (L : za8) (l : List Le) (p : Pr) : Nat -> St -> Option Ann := fun id st => match id with
 | 0 => some ⟨Nat × Nat, fun x => [(9, .int .i64 (L zac (L Prod.fst x))), (10, .int .i64 (L zac (L Prod.snd x)))], fun x => [], [0, 2, 4, 8], [4], fun x => L3 L lbIn l p x, fun x => L lbGo x⟩
 | _ => none
def yit (L : za8) : zcu := (43, fun xs => match xs with
 | [x, q, .fn k [] []] => match zam k 44 with
   | true => some (L ze7 x /\ L zcl q /\ L zdz (L zaf x) /\ L zd6 (L zaf x) /\ L zgm (L zal q), .tup [.int .i64 (L2 L ze1 (L zaf x) (L zal q)), .bool (L2 L ztp (L zaf x) (L zal q))])
   | false => none
 | _ => none)
theorem zo9 {i j : Nat} {m : Int} (h : j <= 1000000) (hi : (i : Int) < (j : Int)) (hm : (zmo .u64 ((((i : Int) + (j : Int) + 9223372036854775808) % 18446744073709551616 - 9223372036854775808) % 18446744073709551616) 1 + 9223372036854775808) % 18446744073709551616 - 9223372036854775808 = m) :
   m = (((i + j) / 2 : Nat) : Int) := by
 have e : zmo .u64 ((((i : Int) + (j : Int) + 9223372036854775808) % 18446744073709551616 - 9223372036854775808) % 18446744073709551616) 1 = ((i : Int) + j) / 2 := by
   rw [show (((i : Int) + (j : Int) + 9223372036854775808) % 18446744073709551616 - 9223372036854775808) % 18446744073709551616 = (i : Int) + j by omega]
   unfold zmo
   show Int.fdiv _ (2 ^ 1) = _
   rw [Int.fdiv_eq_ediv_of_nonneg _ (by decide)]
   rfl
 rw [e] at hm
 omega
theorem ygs {p q : Pr} : (zov p q < 0) = (prN p < prN q) := by
 unfold zov
 split
 · rename_i h; exact propext ⟨fun _ => h, fun _ => by decide⟩
 · rename_i h
   split
   · exact propext ⟨fun h2 => by omega, fun h2 => absurd h2 h⟩
   · exact propext ⟨fun h2 => by omega, fun h2 => absurd h2 h⟩
theorem yaz {p q : Pr} : (zov p q = 0) = (prN p = prN q) := by
 unfold zov
 split
 · rename_i h; exact propext ⟨fun h2 => by omega, fun h2 => by omega⟩
 · rename_i h
   split
   · exact propext ⟨fun h2 => by omega, fun h2 => by omega⟩
   · exact propext ⟨fun h2 => by omega, fun _ => rfl⟩
theorem yiu {l : List Le} {p : Pr} (hok : zd6 l) (hpo : zgm p) {i : Nat} (e : i = zcp (prN p) l) : ((i : Int) < (l.length : Int) -> ieq (zov (zao l i).p p) 0 = zbr p l) /\ ((l.length : Int) <= (i : Int) -> false = zbr p l) := by
 subst e
 constructor
 · intro h
   have h : zcp (prN p) l < l.length := by omega
   rw [zga h]
   have hh := ypx hok hpo h
   cases hb : zbr p l with
   | true =>
     have := hh.2 hb
     simp only [ieq, beq_iff_eq, yaz]; exact this
   | false =>
     simp only [ieq, beq_eq_false_iff_ne, ne_eq, yaz]
     intro h2
     rw [hh.1 h2] at hb; cases hb
 · intro h
   cases hb : zbr p l with
   | true =>
     obtain ⟨h2, _⟩ := (zgn hok hpo).1 hb
     omega
   | false => rfl
theorem yea : zd7 Tryz.prog (yit std) := by
 intro xs p r h hp
 unfold yit at h
 simp only at h
 split at h
 rotate_left
 · cases h
 rename_i x q k
 cases hk : zam k 44 with
 | false => rw [hk] at h; cases h
 | true =>
 rw [hk] at h
 obtain rfl : k = 44 := of_decide_eq_true hk
 cases h
 obtain ⟨ho, ho2, hz, hok, hpo⟩ := hp
 refine yo1 ze0 ho (zqh ziv ho2 ?_)
 rw [zgr]
 have hz : zdz (zaf x) := hz
 have hok : zd6 (zaf x) := hok
 have hpo : zgm (zal q) := hpo
 show zab _ _ (zti std leV (zaf x) :: zot std (zal q) :: _) (.tup [.int .i64 (ze1 (zaf x) (zal q)), .bool (ztp (zaf x) (zal q))])
 generalize zaf x = l at hz hok |-
 generalize zal q = p at hpo |-
 refine zas (T := tt) (S := fun L => zbe [yir L]) (lo := fun L => lbsA L l p) (lb := noA) 5 (fn := Tryz.f43) (xs := fun L => [zci L l, zot L p, .fn 44 [] []]) rfl rfl (by kernel_rfl) (by kernel_rfl) rfl zae (za7 ⟨ye8, trivial⟩) (by kernel_rfl) ?_
 intro L P' Q' hL hP hQ
 have hw : zf5 l = l.length := rfl
 have hz : l.length <= 1000000 := hz
 have hlb := zkl (prN p) l
 have hE : ∀ (y : Pr) (d : Int) (h : Bool), L zbt (.agg [.int .u8 (L (L za0 y) 0), .int .u8 (L (L za0 y) 1), .int .u8 (L (L za0 y) 2), .int .u8 (L (L za0 y) 3), .int .u8 (L (L za0 y) 4), .int .u8 (L (L za0 y) 5), .int .u8 (L (L za0 y) 6), .int .u8 (L (L za0 y) 7), .int .u8 (L (L za0 y) 8), .int .u8 (L (L za0 y) 9), .int .u8 (L (L za0 y) 10), .int .u8 (L (L za0 y) 11), .int .u8 (L (L za0 y) 12), .int .u8 (L (L za0 y) 13), .int .u8 (L (L za0 y) 14), .int .u8 (L (L za0 y) 15), .int .i64 d, .bool h]) = L (L (L Le.mk y) d) h := by subst hL; exact fun y d h => (zbi ⟨y, d, h⟩).2
 have hEo : ∀ (y : Pr) (d : Int) (h : Bool), (L zdc (.agg [.int .u8 (L (L za0 y) 0), .int .u8 (L (L za0 y) 1), .int .u8 (L (L za0 y) 2), .int .u8 (L (L za0 y) 3), .int .u8 (L (L za0 y) 4), .int .u8 (L (L za0 y) 5), .int .u8 (L (L za0 y) 6), .int .u8 (L (L za0 y) 7), .int .u8 (L (L za0 y) 8), .int .u8 (L (L za0 y) 9), .int .u8 (L (L za0 y) 10), .int .u8 (L (L za0 y) 11), .int .u8 (L (L za0 y) 12), .int .u8 (L (L za0 y) 13), .int .u8 (L (L za0 y) 14), .int .u8 (L (L za0 y) 15), .int .i64 d, .bool h])) = True := by subst hL; exact fun y d h => eq_true (zbi ⟨y, d, h⟩).1
 have hF : ∀ (y : Pr) (d : Int) (h : Bool), L zbt (.agg [.int .u8 (L (L za1 [L (L za0 y) 0, L (L za0 y) 1, L (L za0 y) 2, L (L za0 y) 3, L (L za0 y) 4, L (L za0 y) 5, L (L za0 y) 6, L (L za0 y) 7, L (L za0 y) 8, L (L za0 y) 9, L (L za0 y) 10, L (L za0 y) 11, L (L za0 y) 12, L (L za0 y) 13, L (L za0 y) 14, L (L za0 y) 15]) 0), .int .u8 (L (L za1 [L (L za0 y) 0, L (L za0 y) 1, L (L za0 y) 2, L (L za0 y) 3, L (L za0 y) 4, L (L za0 y) 5, L (L za0 y) 6, L (L za0 y) 7, L (L za0 y) 8, L (L za0 y) 9, L (L za0 y) 10, L (L za0 y) 11, L (L za0 y) 12, L (L za0 y) 13, L (L za0 y) 14, L (L za0 y) 15]) 1), .int .u8 (L (L za1 [L (L za0 y) 0, L (L za0 y) 1, L (L za0 y) 2, L (L za0 y) 3, L (L za0 y) 4, L (L za0 y) 5, L (L za0 y) 6, L (L za0 y) 7, L (L za0 y) 8, L (L za0 y) 9, L (L za0 y) 10, L (L za0 y) 11, L (L za0 y) 12, L (L za0 y) 13, L (L za0 y) 14, L (L za0 y) 15]) 2), .int .u8 (L (L za1 [L (L za0 y) 0, L (L za0 y) 1, L (L za0 y) 2, L (L za0 y) 3, L (L za0 y) 4, L (L za0 y) 5, L (L za0 y) 6, L (L za0 y) 7, L (L za0 y) 8, L (L za0 y) 9, L (L za0 y) 10, L (L za0 y) 11, L (L za0 y) 12, L (L za0 y) 13, L (L za0 y) 14, L (L za0 y) 15]) 3), .int .u8 (L (L za1 [L (L za0 y) 0, L (L za0 y) 1, L (L za0 y) 2, L (L za0 y) 3, L (L za0 y) 4, L (L za0 y) 5, L (L za0 y) 6, L (L za0 y) 7, L (L za0 y) 8, L (L za0 y) 9, L (L za0 y) 10, L (L za0 y) 11, L (L za0 y) 12, L (L za0 y) 13, L (L za0 y) 14, L (L za0 y) 15]) 4), .int .u8 (L (L za1 [L (L za0 y) 0, L (L za0 y) 1, L (L za0 y) 2, L (L za0 y) 3, L (L za0 y) 4, L (L za0 y) 5, L (L za0 y) 6, L (L za0 y) 7, L (L za0 y) 8, L (L za0 y) 9, L (L za0 y) 10, L (L za0 y) 11, L (L za0 y) 12, L (L za0 y) 13, L (L za0 y) 14, L (L za0 y) 15]) 5), .int .u8 (L (L za1 [L (L za0 y) 0, L (L za0 y) 1, L (L za0 y) 2, L (L za0 y) 3, L (L za0 y) 4, L (L za0 y) 5, L (L za0 y) 6, L (L za0 y) 7, L (L za0 y) 8, L (L za0 y) 9, L (L za0 y) 10, L (L za0 y) 11, L (L za0 y) 12, L (L za0 y) 13, L (L za0 y) 14, L (L za0 y) 15]) 6), .int .u8 (L (L za1 [L (L za0 y) 0, L (L za0 y) 1, L (L za0 y) 2, L (L za0 y) 3, L (L za0 y) 4, L (L za0 y) 5, L (L za0 y) 6, L (L za0 y) 7, L (L za0 y) 8, L (L za0 y) 9, L (L za0 y) 10, L (L za0 y) 11, L (L za0 y) 12, L (L za0 y) 13, L (L za0 y) 14, L (L za0 y) 15]) 7), .int .u8 (L (L za1 [L (L za0 y) 0, L (L za0 y) 1, L (L za0 y) 2, L (L za0 y) 3, L (L za0 y) 4, L (L za0 y) 5, L (L za0 y) 6, L (L za0 y) 7, L (L za0 y) 8, L (L za0 y) 9, L (L za0 y) 10, L (L za0 y) 11, L (L za0 y) 12, L (L za0 y) 13, L (L za0 y) 14, L (L za0 y) 15]) 8), .int .u8 (L (L za1 [L (L za0 y) 0, L (L za0 y) 1, L (L za0 y) 2, L (L za0 y) 3, L (L za0 y) 4, L (L za0 y) 5, L (L za0 y) 6, L (L za0 y) 7, L (L za0 y) 8, L (L za0 y) 9, L (L za0 y) 10, L (L za0 y) 11, L (L za0 y) 12, L (L za0 y) 13, L (L za0 y) 14, L (L za0 y) 15]) 9), .int .u8 (L (L za1 [L (L za0 y) 0, L (L za0 y) 1, L (L za0 y) 2, L (L za0 y) 3, L (L za0 y) 4, L (L za0 y) 5, L (L za0 y) 6, L (L za0 y) 7, L (L za0 y) 8, L (L za0 y) 9, L (L za0 y) 10, L (L za0 y) 11, L (L za0 y) 12, L (L za0 y) 13, L (L za0 y) 14, L (L za0 y) 15]) 10), .int .u8 (L (L za1 [L (L za0 y) 0, L (L za0 y) 1, L (L za0 y) 2, L (L za0 y) 3, L (L za0 y) 4, L (L za0 y) 5, L (L za0 y) 6, L (L za0 y) 7, L (L za0 y) 8, L (L za0 y) 9, L (L za0 y) 10, L (L za0 y) 11, L (L za0 y) 12, L (L za0 y) 13, L (L za0 y) 14, L (L za0 y) 15]) 11), .int .u8 (L (L za1 [L (L za0 y) 0, L (L za0 y) 1, L (L za0 y) 2, L (L za0 y) 3, L (L za0 y) 4, L (L za0 y) 5, L (L za0 y) 6, L (L za0 y) 7, L (L za0 y) 8, L (L za0 y) 9, L (L za0 y) 10, L (L za0 y) 11, L (L za0 y) 12, L (L za0 y) 13, L (L za0 y) 14, L (L za0 y) 15]) 12), .int .u8 (L (L za1 [L (L za0 y) 0, L (L za0 y) 1, L (L za0 y) 2, L (L za0 y) 3, L (L za0 y) 4, L (L za0 y) 5, L (L za0 y) 6, L (L za0 y) 7, L (L za0 y) 8, L (L za0 y) 9, L (L za0 y) 10, L (L za0 y) 11, L (L za0 y) 12, L (L za0 y) 13, L (L za0 y) 14, L (L za0 y) 15]) 13), .int .u8 (L (L za1 [L (L za0 y) 0, L (L za0 y) 1, L (L za0 y) 2, L (L za0 y) 3, L (L za0 y) 4, L (L za0 y) 5, L (L za0 y) 6, L (L za0 y) 7, L (L za0 y) 8, L (L za0 y) 9, L (L za0 y) 10, L (L za0 y) 11, L (L za0 y) 12, L (L za0 y) 13, L (L za0 y) 14, L (L za0 y) 15]) 14), .int .u8 (L (L za1 [L (L za0 y) 0, L (L za0 y) 1, L (L za0 y) 2, L (L za0 y) 3, L (L za0 y) 4, L (L za0 y) 5, L (L za0 y) 6, L (L za0 y) 7, L (L za0 y) 8, L (L za0 y) 9, L (L za0 y) 10, L (L za0 y) 11, L (L za0 y) 12, L (L za0 y) 13, L (L za0 y) 14, L (L za0 y) 15]) 15), .int .i64 d, .bool h]) = L (L (L Le.mk y) d) h := by subst hL; exact fun y d h => (zbi ⟨y, d, h⟩).2
 have hFo : ∀ (y : Pr) (d : Int) (h : Bool), (L zdc (.agg [.int .u8 (L (L za1 [L (L za0 y) 0, L (L za0 y) 1, L (L za0 y) 2, L (L za0 y) 3, L (L za0 y) 4, L (L za0 y) 5, L (L za0 y) 6, L (L za0 y) 7, L (L za0 y) 8, L (L za0 y) 9, L (L za0 y) 10, L (L za0 y) 11, L (L za0 y) 12, L (L za0 y) 13, L (L za0 y) 14, L (L za0 y) 15]) 0), .int .u8 (L (L za1 [L (L za0 y) 0, L (L za0 y) 1, L (L za0 y) 2, L (L za0 y) 3, L (L za0 y) 4, L (L za0 y) 5, L (L za0 y) 6, L (L za0 y) 7, L (L za0 y) 8, L (L za0 y) 9, L (L za0 y) 10, L (L za0 y) 11, L (L za0 y) 12, L (L za0 y) 13, L (L za0 y) 14, L (L za0 y) 15]) 1), .int .u8 (L (L za1 [L (L za0 y) 0, L (L za0 y) 1, L (L za0 y) 2, L (L za0 y) 3, L (L za0 y) 4, L (L za0 y) 5, L (L za0 y) 6, L (L za0 y) 7, L (L za0 y) 8, L (L za0 y) 9, L (L za0 y) 10, L (L za0 y) 11, L (L za0 y) 12, L (L za0 y) 13, L (L za0 y) 14, L (L za0 y) 15]) 2), .int .u8 (L (L za1 [L (L za0 y) 0, L (L za0 y) 1, L (L za0 y) 2, L (L za0 y) 3, L (L za0 y) 4, L (L za0 y) 5, L (L za0 y) 6, L (L za0 y) 7, L (L za0 y) 8, L (L za0 y) 9, L (L za0 y) 10, L (L za0 y) 11, L (L za0 y) 12, L (L za0 y) 13, L (L za0 y) 14, L (L za0 y) 15]) 3), .int .u8 (L (L za1 [L (L za0 y) 0, L (L za0 y) 1, L (L za0 y) 2, L (L za0 y) 3, L (L za0 y) 4, L (L za0 y) 5, L (L za0 y) 6, L (L za0 y) 7, L (L za0 y) 8, L (L za0 y) 9, L (L za0 y) 10, L (L za0 y) 11, L (L za0 y) 12, L (L za0 y) 13, L (L za0 y) 14, L (L za0 y) 15]) 4), .int .u8 (L (L za1 [L (L za0 y) 0, L (L za0 y) 1, L (L za0 y) 2, L (L za0 y) 3, L (L za0 y) 4, L (L za0 y) 5, L (L za0 y) 6, L (L za0 y) 7, L (L za0 y) 8, L (L za0 y) 9, L (L za0 y) 10, L (L za0 y) 11, L (L za0 y) 12, L (L za0 y) 13, L (L za0 y) 14, L (L za0 y) 15]) 5), .int .u8 (L (L za1 [L (L za0 y) 0, L (L za0 y) 1, L (L za0 y) 2, L (L za0 y) 3, L (L za0 y) 4, L (L za0 y) 5, L (L za0 y) 6, L (L za0 y) 7, L (L za0 y) 8, L (L za0 y) 9, L (L za0 y) 10, L (L za0 y) 11, L (L za0 y) 12, L (L za0 y) 13, L (L za0 y) 14, L (L za0 y) 15]) 6), .int .u8 (L (L za1 [L (L za0 y) 0, L (L za0 y) 1, L (L za0 y) 2, L (L za0 y) 3, L (L za0 y) 4, L (L za0 y) 5, L (L za0 y) 6, L (L za0 y) 7, L (L za0 y) 8, L (L za0 y) 9, L (L za0 y) 10, L (L za0 y) 11, L (L za0 y) 12, L (L za0 y) 13, L (L za0 y) 14, L (L za0 y) 15]) 7), .int .u8 (L (L za1 [L (L za0 y) 0, L (L za0 y) 1, L (L za0 y) 2, L (L za0 y) 3, L (L za0 y) 4, L (L za0 y) 5, L (L za0 y) 6, L (L za0 y) 7, L (L za0 y) 8, L (L za0 y) 9, L (L za0 y) 10, L (L za0 y) 11, L (L za0 y) 12, L (L za0 y) 13, L (L za0 y) 14, L (L za0 y) 15]) 8), .int .u8 (L (L za1 [L (L za0 y) 0, L (L za0 y) 1, L (L za0 y) 2, L (L za0 y) 3, L (L za0 y) 4, L (L za0 y) 5, L (L za0 y) 6, L (L za0 y) 7, L (L za0 y) 8, L (L za0 y) 9, L (L za0 y) 10, L (L za0 y) 11, L (L za0 y) 12, L (L za0 y) 13, L (L za0 y) 14, L (L za0 y) 15]) 9), .int .u8 (L (L za1 [L (L za0 y) 0, L (L za0 y) 1, L (L za0 y) 2, L (L za0 y) 3, L (L za0 y) 4, L (L za0 y) 5, L (L za0 y) 6, L (L za0 y) 7, L (L za0 y) 8, L (L za0 y) 9, L (L za0 y) 10, L (L za0 y) 11, L (L za0 y) 12, L (L za0 y) 13, L (L za0 y) 14, L (L za0 y) 15]) 10), .int .u8 (L (L za1 [L (L za0 y) 0, L (L za0 y) 1, L (L za0 y) 2, L (L za0 y) 3, L (L za0 y) 4, L (L za0 y) 5, L (L za0 y) 6, L (L za0 y) 7, L (L za0 y) 8, L (L za0 y) 9, L (L za0 y) 10, L (L za0 y) 11, L (L za0 y) 12, L (L za0 y) 13, L (L za0 y) 14, L (L za0 y) 15]) 11), .int .u8 (L (L za1 [L (L za0 y) 0, L (L za0 y) 1, L (L za0 y) 2, L (L za0 y) 3, L (L za0 y) 4, L (L za0 y) 5, L (L za0 y) 6, L (L za0 y) 7, L (L za0 y) 8, L (L za0 y) 9, L (L za0 y) 10, L (L za0 y) 11, L (L za0 y) 12, L (L za0 y) 13, L (L za0 y) 14, L (L za0 y) 15]) 12), .int .u8 (L (L za1 [L (L za0 y) 0, L (L za0 y) 1, L (L za0 y) 2, L (L za0 y) 3, L (L za0 y) 4, L (L za0 y) 5, L (L za0 y) 6, L (L za0 y) 7, L (L za0 y) 8, L (L za0 y) 9, L (L za0 y) 10, L (L za0 y) 11, L (L za0 y) 12, L (L za0 y) 13, L (L za0 y) 14, L (L za0 y) 15]) 13), .int .u8 (L (L za1 [L (L za0 y) 0, L (L za0 y) 1, L (L za0 y) 2, L (L za0 y) 3, L (L za0 y) 4, L (L za0 y) 5, L (L za0 y) 6, L (L za0 y) 7, L (L za0 y) 8, L (L za0 y) 9, L (L za0 y) 10, L (L za0 y) 11, L (L za0 y) 12, L (L za0 y) 13, L (L za0 y) 14, L (L za0 y) 15]) 14), .int .u8 (L (L za1 [L (L za0 y) 0, L (L za0 y) 1, L (L za0 y) 2, L (L za0 y) 3, L (L za0 y) 4, L (L za0 y) 5, L (L za0 y) 6, L (L za0 y) 7, L (L za0 y) 8, L (L za0 y) 9, L (L za0 y) 10, L (L za0 y) 11, L (L za0 y) 12, L (L za0 y) 13, L (L za0 y) 14, L (L za0 y) 15]) 15), .int .i64 d, .bool h])) = True := by subst hL; exact fun y d h => eq_true (zbi ⟨y, d, h⟩).1
 have hEta : ∀ y : Le, L (L (L Le.mk (L Le.p y)) (L Le.d y)) (L Le.h y) = y := by subst hL; exact fun y => rfl
 have hMp : ∀ (y : Pr) (d : Int) (h : Bool), L Le.p (L (L (L Le.mk y) d) h) = y := by subst hL; exact fun y d h => rfl
 have hQ0 : ∀ y : Pr, L zal (.agg [.int .u8 (L (L za0 y) 0), .int .u8 (L (L za0 y) 1), .int .u8 (L (L za0 y) 2), .int .u8 (L (L za0 y) 3), .int .u8 (L (L za0 y) 4), .int .u8 (L (L za0 y) 5), .int .u8 (L (L za0 y) 6), .int .u8 (L (L za0 y) 7), .int .u8 (L (L za0 y) 8), .int .u8 (L (L za0 y) 9), .int .u8 (L (L za0 y) 10), .int .u8 (L (L za0 y) 11), .int .u8 (L (L za0 y) 12), .int .u8 (L (L za0 y) 13), .int .u8 (L (L za0 y) 14), .int .u8 (L (L za0 y) 15)]) = y := by subst hL; exact fun y => (zbh y).2
 have hQo : ∀ y : Pr, (L zcl (.agg [.int .u8 (L (L za0 y) 0), .int .u8 (L (L za0 y) 1), .int .u8 (L (L za0 y) 2), .int .u8 (L (L za0 y) 3), .int .u8 (L (L za0 y) 4), .int .u8 (L (L za0 y) 5), .int .u8 (L (L za0 y) 6), .int .u8 (L (L za0 y) 7), .int .u8 (L (L za0 y) 8), .int .u8 (L (L za0 y) 9), .int .u8 (L (L za0 y) 10), .int .u8 (L (L za0 y) 11), .int .u8 (L (L za0 y) 12), .int .u8 (L (L za0 y) 13), .int .u8 (L (L za0 y) 14), .int .u8 (L (L za0 y) 15)])) = True := by subst hL; exact fun y => eq_true (zbh y).1
 have hQ1 : ∀ y : Pr, L zal (.agg [.int .u8 (L (L za1 [L (L za0 y) 0, L (L za0 y) 1, L (L za0 y) 2, L (L za0 y) 3, L (L za0 y) 4, L (L za0 y) 5, L (L za0 y) 6, L (L za0 y) 7, L (L za0 y) 8, L (L za0 y) 9, L (L za0 y) 10, L (L za0 y) 11, L (L za0 y) 12, L (L za0 y) 13, L (L za0 y) 14, L (L za0 y) 15]) 0), .int .u8 (L (L za1 [L (L za0 y) 0, L (L za0 y) 1, L (L za0 y) 2, L (L za0 y) 3, L (L za0 y) 4, L (L za0 y) 5, L (L za0 y) 6, L (L za0 y) 7, L (L za0 y) 8, L (L za0 y) 9, L (L za0 y) 10, L (L za0 y) 11, L (L za0 y) 12, L (L za0 y) 13, L (L za0 y) 14, L (L za0 y) 15]) 1), .int .u8 (L (L za1 [L (L za0 y) 0, L (L za0 y) 1, L (L za0 y) 2, L (L za0 y) 3, L (L za0 y) 4, L (L za0 y) 5, L (L za0 y) 6, L (L za0 y) 7, L (L za0 y) 8, L (L za0 y) 9, L (L za0 y) 10, L (L za0 y) 11, L (L za0 y) 12, L (L za0 y) 13, L (L za0 y) 14, L (L za0 y) 15]) 2), .int .u8 (L (L za1 [L (L za0 y) 0, L (L za0 y) 1, L (L za0 y) 2, L (L za0 y) 3, L (L za0 y) 4, L (L za0 y) 5, L (L za0 y) 6, L (L za0 y) 7, L (L za0 y) 8, L (L za0 y) 9, L (L za0 y) 10, L (L za0 y) 11, L (L za0 y) 12, L (L za0 y) 13, L (L za0 y) 14, L (L za0 y) 15]) 3), .int .u8 (L (L za1 [L (L za0 y) 0, L (L za0 y) 1, L (L za0 y) 2, L (L za0 y) 3, L (L za0 y) 4, L (L za0 y) 5, L (L za0 y) 6, L (L za0 y) 7, L (L za0 y) 8, L (L za0 y) 9, L (L za0 y) 10, L (L za0 y) 11, L (L za0 y) 12, L (L za0 y) 13, L (L za0 y) 14, L (L za0 y) 15]) 4), .int .u8 (L (L za1 [L (L za0 y) 0, L (L za0 y) 1, L (L za0 y) 2, L (L za0 y) 3, L (L za0 y) 4, L (L za0 y) 5, L (L za0 y) 6, L (L za0 y) 7, L (L za0 y) 8, L (L za0 y) 9, L (L za0 y) 10, L (L za0 y) 11, L (L za0 y) 12, L (L za0 y) 13, L (L za0 y) 14, L (L za0 y) 15]) 5), .int .u8 (L (L za1 [L (L za0 y) 0, L (L za0 y) 1, L (L za0 y) 2, L (L za0 y) 3, L (L za0 y) 4, L (L za0 y) 5, L (L za0 y) 6, L (L za0 y) 7, L (L za0 y) 8, L (L za0 y) 9, L (L za0 y) 10, L (L za0 y) 11, L (L za0 y) 12, L (L za0 y) 13, L (L za0 y) 14, L (L za0 y) 15]) 6), .int .u8 (L (L za1 [L (L za0 y) 0, L (L za0 y) 1, L (L za0 y) 2, L (L za0 y) 3, L (L za0 y) 4, L (L za0 y) 5, L (L za0 y) 6, L (L za0 y) 7, L (L za0 y) 8, L (L za0 y) 9, L (L za0 y) 10, L (L za0 y) 11, L (L za0 y) 12, L (L za0 y) 13, L (L za0 y) 14, L (L za0 y) 15]) 7), .int .u8 (L (L za1 [L (L za0 y) 0, L (L za0 y) 1, L (L za0 y) 2, L (L za0 y) 3, L (L za0 y) 4, L (L za0 y) 5, L (L za0 y) 6, L (L za0 y) 7, L (L za0 y) 8, L (L za0 y) 9, L (L za0 y) 10, L (L za0 y) 11, L (L za0 y) 12, L (L za0 y) 13, L (L za0 y) 14, L (L za0 y) 15]) 8), .int .u8 (L (L za1 [L (L za0 y) 0, L (L za0 y) 1, L (L za0 y) 2, L (L za0 y) 3, L (L za0 y) 4, L (L za0 y) 5, L (L za0 y) 6, L (L za0 y) 7, L (L za0 y) 8, L (L za0 y) 9, L (L za0 y) 10, L (L za0 y) 11, L (L za0 y) 12, L (L za0 y) 13, L (L za0 y) 14, L (L za0 y) 15]) 9), .int .u8 (L (L za1 [L (L za0 y) 0, L (L za0 y) 1, L (L za0 y) 2, L (L za0 y) 3, L (L za0 y) 4, L (L za0 y) 5, L (L za0 y) 6, L (L za0 y) 7, L (L za0 y) 8, L (L za0 y) 9, L (L za0 y) 10, L (L za0 y) 11, L (L za0 y) 12, L (L za0 y) 13, L (L za0 y) 14, L (L za0 y) 15]) 10), .int .u8 (L (L za1 [L (L za0 y) 0, L (L za0 y) 1, L (L za0 y) 2, L (L za0 y) 3, L (L za0 y) 4, L (L za0 y) 5, L (L za0 y) 6, L (L za0 y) 7, L (L za0 y) 8, L (L za0 y) 9, L (L za0 y) 10, L (L za0 y) 11, L (L za0 y) 12, L (L za0 y) 13, L (L za0 y) 14, L (L za0 y) 15]) 11), .int .u8 (L (L za1 [L (L za0 y) 0, L (L za0 y) 1, L (L za0 y) 2, L (L za0 y) 3, L (L za0 y) 4, L (L za0 y) 5, L (L za0 y) 6, L (L za0 y) 7, L (L za0 y) 8, L (L za0 y) 9, L (L za0 y) 10, L (L za0 y) 11, L (L za0 y) 12, L (L za0 y) 13, L (L za0 y) 14, L (L za0 y) 15]) 12), .int .u8 (L (L za1 [L (L za0 y) 0, L (L za0 y) 1, L (L za0 y) 2, L (L za0 y) 3, L (L za0 y) 4, L (L za0 y) 5, L (L za0 y) 6, L (L za0 y) 7, L (L za0 y) 8, L (L za0 y) 9, L (L za0 y) 10, L (L za0 y) 11, L (L za0 y) 12, L (L za0 y) 13, L (L za0 y) 14, L (L za0 y) 15]) 13), .int .u8 (L (L za1 [L (L za0 y) 0, L (L za0 y) 1, L (L za0 y) 2, L (L za0 y) 3, L (L za0 y) 4, L (L za0 y) 5, L (L za0 y) 6, L (L za0 y) 7, L (L za0 y) 8, L (L za0 y) 9, L (L za0 y) 10, L (L za0 y) 11, L (L za0 y) 12, L (L za0 y) 13, L (L za0 y) 14, L (L za0 y) 15]) 14), .int .u8 (L (L za1 [L (L za0 y) 0, L (L za0 y) 1, L (L za0 y) 2, L (L za0 y) 3, L (L za0 y) 4, L (L za0 y) 5, L (L za0 y) 6, L (L za0 y) 7, L (L za0 y) 8, L (L za0 y) 9, L (L za0 y) 10, L (L za0 y) 11, L (L za0 y) 12, L (L za0 y) 13, L (L za0 y) 14, L (L za0 y) 15]) 15)]) = y := by subst hL; exact fun y => (zbh y).2
 have hQ1o : ∀ y : Pr, (L zcl (.agg [.int .u8 (L (L za1 [L (L za0 y) 0, L (L za0 y) 1, L (L za0 y) 2, L (L za0 y) 3, L (L za0 y) 4, L (L za0 y) 5, L (L za0 y) 6, L (L za0 y) 7, L (L za0 y) 8, L (L za0 y) 9, L (L za0 y) 10, L (L za0 y) 11, L (L za0 y) 12, L (L za0 y) 13, L (L za0 y) 14, L (L za0 y) 15]) 0), .int .u8 (L (L za1 [L (L za0 y) 0, L (L za0 y) 1, L (L za0 y) 2, L (L za0 y) 3, L (L za0 y) 4, L (L za0 y) 5, L (L za0 y) 6, L (L za0 y) 7, L (L za0 y) 8, L (L za0 y) 9, L (L za0 y) 10, L (L za0 y) 11, L (L za0 y) 12, L (L za0 y) 13, L (L za0 y) 14, L (L za0 y) 15]) 1), .int .u8 (L (L za1 [L (L za0 y) 0, L (L za0 y) 1, L (L za0 y) 2, L (L za0 y) 3, L (L za0 y) 4, L (L za0 y) 5, L (L za0 y) 6, L (L za0 y) 7, L (L za0 y) 8, L (L za0 y) 9, L (L za0 y) 10, L (L za0 y) 11, L (L za0 y) 12, L (L za0 y) 13, L (L za0 y) 14, L (L za0 y) 15]) 2), .int .u8 (L (L za1 [L (L za0 y) 0, L (L za0 y) 1, L (L za0 y) 2, L (L za0 y) 3, L (L za0 y) 4, L (L za0 y) 5, L (L za0 y) 6, L (L za0 y) 7, L (L za0 y) 8, L (L za0 y) 9, L (L za0 y) 10, L (L za0 y) 11, L (L za0 y) 12, L (L za0 y) 13, L (L za0 y) 14, L (L za0 y) 15]) 3), .int .u8 (L (L za1 [L (L za0 y) 0, L (L za0 y) 1, L (L za0 y) 2, L (L za0 y) 3, L (L za0 y) 4, L (L za0 y) 5, L (L za0 y) 6, L (L za0 y) 7, L (L za0 y) 8, L (L za0 y) 9, L (L za0 y) 10, L (L za0 y) 11, L (L za0 y) 12, L (L za0 y) 13, L (L za0 y) 14, L (L za0 y) 15]) 4), .int .u8 (L (L za1 [L (L za0 y) 0, L (L za0 y) 1, L (L za0 y) 2, L (L za0 y) 3, L (L za0 y) 4, L (L za0 y) 5, L (L za0 y) 6, L (L za0 y) 7, L (L za0 y) 8, L (L za0 y) 9, L (L za0 y) 10, L (L za0 y) 11, L (L za0 y) 12, L (L za0 y) 13, L (L za0 y) 14, L (L za0 y) 15]) 5), .int .u8 (L (L za1 [L (L za0 y) 0, L (L za0 y) 1, L (L za0 y) 2, L (L za0 y) 3, L (L za0 y) 4, L (L za0 y) 5, L (L za0 y) 6, L (L za0 y) 7, L (L za0 y) 8, L (L za0 y) 9, L (L za0 y) 10, L (L za0 y) 11, L (L za0 y) 12, L (L za0 y) 13, L (L za0 y) 14, L (L za0 y) 15]) 6), .int .u8 (L (L za1 [L (L za0 y) 0, L (L za0 y) 1, L (L za0 y) 2, L (L za0 y) 3, L (L za0 y) 4, L (L za0 y) 5, L (L za0 y) 6, L (L za0 y) 7, L (L za0 y) 8, L (L za0 y) 9, L (L za0 y) 10, L (L za0 y) 11, L (L za0 y) 12, L (L za0 y) 13, L (L za0 y) 14, L (L za0 y) 15]) 7), .int .u8 (L (L za1 [L (L za0 y) 0, L (L za0 y) 1, L (L za0 y) 2, L (L za0 y) 3, L (L za0 y) 4, L (L za0 y) 5, L (L za0 y) 6, L (L za0 y) 7, L (L za0 y) 8, L (L za0 y) 9, L (L za0 y) 10, L (L za0 y) 11, L (L za0 y) 12, L (L za0 y) 13, L (L za0 y) 14, L (L za0 y) 15]) 8), .int .u8 (L (L za1 [L (L za0 y) 0, L (L za0 y) 1, L (L za0 y) 2, L (L za0 y) 3, L (L za0 y) 4, L (L za0 y) 5, L (L za0 y) 6, L (L za0 y) 7, L (L za0 y) 8, L (L za0 y) 9, L (L za0 y) 10, L (L za0 y) 11, L (L za0 y) 12, L (L za0 y) 13, L (L za0 y) 14, L (L za0 y) 15]) 9), .int .u8 (L (L za1 [L (L za0 y) 0, L (L za0 y) 1, L (L za0 y) 2, L (L za0 y) 3, L (L za0 y) 4, L (L za0 y) 5, L (L za0 y) 6, L (L za0 y) 7, L (L za0 y) 8, L (L za0 y) 9, L (L za0 y) 10, L (L za0 y) 11, L (L za0 y) 12, L (L za0 y) 13, L (L za0 y) 14, L (L za0 y) 15]) 10), .int .u8 (L (L za1 [L (L za0 y) 0, L (L za0 y) 1, L (L za0 y) 2, L (L za0 y) 3, L (L za0 y) 4, L (L za0 y) 5, L (L za0 y) 6, L (L za0 y) 7, L (L za0 y) 8, L (L za0 y) 9, L (L za0 y) 10, L (L za0 y) 11, L (L za0 y) 12, L (L za0 y) 13, L (L za0 y) 14, L (L za0 y) 15]) 11), .int .u8 (L (L za1 [L (L za0 y) 0, L (L za0 y) 1, L (L za0 y) 2, L (L za0 y) 3, L (L za0 y) 4, L (L za0 y) 5, L (L za0 y) 6, L (L za0 y) 7, L (L za0 y) 8, L (L za0 y) 9, L (L za0 y) 10, L (L za0 y) 11, L (L za0 y) 12, L (L za0 y) 13, L (L za0 y) 14, L (L za0 y) 15]) 12), .int .u8 (L (L za1 [L (L za0 y) 0, L (L za0 y) 1, L (L za0 y) 2, L (L za0 y) 3, L (L za0 y) 4, L (L za0 y) 5, L (L za0 y) 6, L (L za0 y) 7, L (L za0 y) 8, L (L za0 y) 9, L (L za0 y) 10, L (L za0 y) 11, L (L za0 y) 12, L (L za0 y) 13, L (L za0 y) 14, L (L za0 y) 15]) 13), .int .u8 (L (L za1 [L (L za0 y) 0, L (L za0 y) 1, L (L za0 y) 2, L (L za0 y) 3, L (L za0 y) 4, L (L za0 y) 5, L (L za0 y) 6, L (L za0 y) 7, L (L za0 y) 8, L (L za0 y) 9, L (L za0 y) 10, L (L za0 y) 11, L (L za0 y) 12, L (L za0 y) 13, L (L za0 y) 14, L (L za0 y) 15]) 14), .int .u8 (L (L za1 [L (L za0 y) 0, L (L za0 y) 1, L (L za0 y) 2, L (L za0 y) 3, L (L za0 y) 4, L (L za0 y) 5, L (L za0 y) 6, L (L za0 y) 7, L (L za0 y) 8, L (L za0 y) 9, L (L za0 y) 10, L (L za0 y) 11, L (L za0 y) 12, L (L za0 y) 13, L (L za0 y) 14, L (L za0 y) 15]) 15)])) = True := by subst hL; exact fun y => eq_true (zbh y).1
 have hG : ∀ y : List Le, L zaf (.lst 18 (L zf5 y) (fun i => leC L (L (L zao y) i))) = y := by subst hL; exact fun y => zh6 y
 have hGo : ∀ y : List Le, (L ze7 (.lst 18 (L zf5 y) (fun i => leC L (L (L zao y) i)))) = True := by subst hL; exact fun y => eq_true (zlg y)
 obtain ⟨nl, hnl⟩ : ∃ nl, nl = l.length := ⟨_, rfl⟩
 (cbv; try simp only [syT, true_and, and_true])
 refine ⟨⟨(0, nl), ?_⟩, fun x hx => ?_⟩
 · (cbv; try simp only [syT, true_and, and_true])
   (subst hL; subst hQ; simp only [L2, L3, std] at *; try simp only [syS, reduceCtorEq, Int.reduceToNat, Int.reduceAdd, Int.reduceSub] at *)
   subst hnl
   exact ⟨rfl, Nat.zero_le _, hlb, Nat.le_refl _⟩
 · cbv at hx
   (cbv; try simp only [syT, true_and, and_true])
   simp only [hE, hEo, hF, hFo, hEta, hMp, hQ1, hQ1o, hQ0, hQo, hG, hGo, true_and]
   generalize hm : L IntKind.i64.wrap (L (L (zmo .u64) (L IntKind.u64.wrap (L (L (zc6 .i64) (L zac (L Prod.fst x))) (L zac (L Prod.snd x))))) 1) = m
   refine ⟨fun hlt => ⟨?_, ?_, ?_, fun hc => ?_, fun hc => ?_⟩, fun hge => ?_⟩
   · (subst hL; subst hQ; simp only [L2, L3, std] at *; try simp only [syS, reduceCtorEq, Int.reduceToNat, Int.reduceAdd, Int.reduceSub] at *)
     decide
   · (subst hL; subst hQ; simp only [L2, L3, std] at *; try simp only [syS, reduceCtorEq, Int.reduceToNat, Int.reduceAdd, Int.reduceSub] at *)
     obtain ⟨x1, x2, x3⟩ := hx
     have hmm := zo9 (by omega) hlt hm
     clear hm
     omega
   · (subst hL; subst hQ; simp only [L2, L3, std] at *; try simp only [syS, reduceCtorEq, Int.reduceToNat, Int.reduceAdd, Int.reduceSub] at *)
     obtain ⟨x1, x2, x3⟩ := hx
     have hmm := zo9 (by omega) hlt hm
     clear hm
     have hl : m.toNat < l.length := by omega
     refine ⟨?_, hpo⟩
     show zgm (zao l m.toNat).p
     rw [zga hl]
     exact (hok.ok _ (List.getElem_mem hl)).1
   · obtain ⟨y, hy⟩ : ∃ y : Nat × Nat, y = (m.toNat + 1, x.2) := ⟨_, rfl⟩
     refine ⟨y, ?_⟩
     (cbv; try simp only [syT, true_and, and_true])
     (subst hL; subst hQ; simp only [L2, L3, std] at *; try simp only [syS, reduceCtorEq, Int.reduceToNat, Int.reduceAdd, Int.reduceSub] at *)
     obtain ⟨x1, x2, x3⟩ := hx
     have hmm := zo9 (by omega) hlt hm
     clear hm
     have hl : m.toNat < l.length := by omega
     rw [zga hl, ygs] at hc
     have hlt2 : m.toNat < zcp (prN p) l := by
       rcases Nat.lt_or_ge m.toNat (zcp (prN p) l) with h | h
       · exact h
       · have := znh hok.ris hl h
         have hc : kLe l[m.toNat] < prN p := hc
         omega
     subst hy
     refine ⟨rfl, by show _ = ((m.toNat + 1 : Nat) : Int); omega, ⟨hlt2, x2, x3⟩, ?_⟩
     show x.2 - (m.toNat + 1) + 1 <= x.2 - x.1
     omega
   · obtain ⟨y, hy⟩ : ∃ y : Nat × Nat, y = (x.1, m.toNat) := ⟨_, rfl⟩
     refine ⟨y, ?_⟩
     (cbv; try simp only [syT, true_and, and_true])
     (subst hL; subst hQ; simp only [L2, L3, std] at *; try simp only [syS, reduceCtorEq, Int.reduceToNat, Int.reduceAdd, Int.reduceSub] at *)
     obtain ⟨x1, x2, x3⟩ := hx
     have hmm := zo9 (by omega) hlt hm
     clear hm
     have hl : m.toNat < l.length := by omega
     have hc : ¬ zov (zao l m.toNat).p p < 0 := by omega
     rw [zga hl, ygs] at hc
     have hge2 : ¬ m.toNat < zcp (prN p) l := fun h => hc (zid hl h)
     subst hy
     refine ⟨by show m = ((m.toNat : Nat) : Int); omega, rfl, ⟨x1, by show zcp (prN p) l <= m.toNat; omega, by show m.toNat <= l.length; omega⟩, ?_⟩
     show m.toNat - x.1 + 1 <= x.2 - x.1
     omega
   · (subst hL; subst hQ; simp only [L2, L3, std] at *; try simp only [syS, reduceCtorEq, Int.reduceToNat, Int.reduceAdd, Int.reduceSub] at *)
     obtain ⟨x1, x2, x3⟩ := hx
     clear hm
     have e : x.1 = zcp (prN p) l := by omega
     obtain ⟨k1, k2⟩ := yiu hok hpo e
     refine ⟨fun h1 => ⟨⟨by omega, h1⟩, ⟨?_, hpo⟩, by rw [e]; rfl, k1 (by omega)⟩, fun h1 => ⟨by rw [e]; rfl, k2 (by omega)⟩⟩
     show zgm (zao l x.1).p
     have hl : x.1 < l.length := by omega
     rw [zga hl]
     exact (hok.ok _ (List.getElem_mem hl)).1
def zyi (L : za8) : zcu := (24, fun xs => match xs with
 | [.agg [x], q] => some (L ze7 x /\ L zcl q /\ L zdz (L zaf x) /\ L zd6 (L zaf x) /\ L zgm (L zal q), .tup [.int .i64 (L2 L ze1 (L zaf x) (L zal q)), .bool (L2 L ztp (L zaf x) (L zal q))])
 | _ => none)
theorem yp7 {h : Array Obj} {D : Nat -> Prop} {x y : AV} {xs : List AV} {vs : Array Value} (k : ∀ v, R h D zap x v -> R h D zap y v) (hr : RL h D zap (.agg [x] :: xs) vs) : RL h D zap (.agg [y] :: xs) vs := by
 refine ⟨hr.1, fun i z v hz hv => ?_⟩
 match i, hz with
 | 0, hz =>
   cases hz
   have r := hr.2 0 _ v rfl hv
   obtain ⟨us, rfl, o1, s1, hr'⟩ := r.inv_agg
   refine .agg _ _ s1 o1 fun j z w hz hw => ?_
   match j, hz with
   | 0, hz => cases hz; exact k w (hr' 0 x w rfl hw)
 | i + 1, hz => exact hr.2 (i + 1) z v hz hv
theorem zw8 {α : Type} {V : Vw α} (K : yby V) {P : Program} {f : FuncId} {x r : AV} {xs : List AV} (ho : okW V x) (h : zab P f (.agg [zti std V (rdW V x)] :: xs) r) : zab P f (.agg [x] :: xs) r :=
 zhx (fun h D vs hr => yp7 (fun v => ym9 K ho) hr) h
theorem zn4 : zd7 Tryz.prog (zyi std) := by
 intro xs p r h hp
 dsimp only [zyi] at h |-
 split at h <;> cases h
 try simp only [L2, L3, std] at hp |-
 rename_i x q
 obtain ⟨ho, ho2, hz, hok, hpo⟩ := hp
 refine zw8 ze0 ho (zqh ziv ho2 ?_)
 rw [zgr]
 have hz : zdz (zaf x) := hz
 have hok : zd6 (zaf x) := hok
 have hpo : zgm (zal q) := hpo
 show zab _ _ (.agg [zti std leV (zaf x)] :: zot std (zal q) :: _) (.tup [.int .i64 (ze1 (zaf x) (zal q)), .bool (ztp (zaf x) (zal q))])
 generalize zaf x = l at hz hok |-
 generalize zal q = p at hpo |-
 refine zas (T := tt) (S := fun L => zbe [yit L]) (lo := noA) (lb := noA) 5 (fn := Tryz.f24) (xs := fun L => [.agg [zci L l], zot L p]) rfl rfl (by kernel_rfl) (by kernel_rfl) rfl zae (za7 ⟨yea, trivial⟩) (by kernel_rfl) ?_
 intro L P' Q' hL hP hQ
 have hE : ∀ (y : Pr) (d : Int) (h : Bool), L zbt (.agg [.int .u8 (L (L za0 y) 0), .int .u8 (L (L za0 y) 1), .int .u8 (L (L za0 y) 2), .int .u8 (L (L za0 y) 3), .int .u8 (L (L za0 y) 4), .int .u8 (L (L za0 y) 5), .int .u8 (L (L za0 y) 6), .int .u8 (L (L za0 y) 7), .int .u8 (L (L za0 y) 8), .int .u8 (L (L za0 y) 9), .int .u8 (L (L za0 y) 10), .int .u8 (L (L za0 y) 11), .int .u8 (L (L za0 y) 12), .int .u8 (L (L za0 y) 13), .int .u8 (L (L za0 y) 14), .int .u8 (L (L za0 y) 15), .int .i64 d, .bool h]) = L (L (L Le.mk y) d) h := by subst hL; exact fun y d h => (zbi ⟨y, d, h⟩).2
 have hEo : ∀ (y : Pr) (d : Int) (h : Bool), (L zdc (.agg [.int .u8 (L (L za0 y) 0), .int .u8 (L (L za0 y) 1), .int .u8 (L (L za0 y) 2), .int .u8 (L (L za0 y) 3), .int .u8 (L (L za0 y) 4), .int .u8 (L (L za0 y) 5), .int .u8 (L (L za0 y) 6), .int .u8 (L (L za0 y) 7), .int .u8 (L (L za0 y) 8), .int .u8 (L (L za0 y) 9), .int .u8 (L (L za0 y) 10), .int .u8 (L (L za0 y) 11), .int .u8 (L (L za0 y) 12), .int .u8 (L (L za0 y) 13), .int .u8 (L (L za0 y) 14), .int .u8 (L (L za0 y) 15), .int .i64 d, .bool h])) = True := by subst hL; exact fun y d h => eq_true (zbi ⟨y, d, h⟩).1
 have hF : ∀ (y : Pr) (d : Int) (h : Bool), L zbt (.agg [.int .u8 (L (L za1 [L (L za0 y) 0, L (L za0 y) 1, L (L za0 y) 2, L (L za0 y) 3, L (L za0 y) 4, L (L za0 y) 5, L (L za0 y) 6, L (L za0 y) 7, L (L za0 y) 8, L (L za0 y) 9, L (L za0 y) 10, L (L za0 y) 11, L (L za0 y) 12, L (L za0 y) 13, L (L za0 y) 14, L (L za0 y) 15]) 0), .int .u8 (L (L za1 [L (L za0 y) 0, L (L za0 y) 1, L (L za0 y) 2, L (L za0 y) 3, L (L za0 y) 4, L (L za0 y) 5, L (L za0 y) 6, L (L za0 y) 7, L (L za0 y) 8, L (L za0 y) 9, L (L za0 y) 10, L (L za0 y) 11, L (L za0 y) 12, L (L za0 y) 13, L (L za0 y) 14, L (L za0 y) 15]) 1), .int .u8 (L (L za1 [L (L za0 y) 0, L (L za0 y) 1, L (L za0 y) 2, L (L za0 y) 3, L (L za0 y) 4, L (L za0 y) 5, L (L za0 y) 6, L (L za0 y) 7, L (L za0 y) 8, L (L za0 y) 9, L (L za0 y) 10, L (L za0 y) 11, L (L za0 y) 12, L (L za0 y) 13, L (L za0 y) 14, L (L za0 y) 15]) 2), .int .u8 (L (L za1 [L (L za0 y) 0, L (L za0 y) 1, L (L za0 y) 2, L (L za0 y) 3, L (L za0 y) 4, L (L za0 y) 5, L (L za0 y) 6, L (L za0 y) 7, L (L za0 y) 8, L (L za0 y) 9, L (L za0 y) 10, L (L za0 y) 11, L (L za0 y) 12, L (L za0 y) 13, L (L za0 y) 14, L (L za0 y) 15]) 3), .int .u8 (L (L za1 [L (L za0 y) 0, L (L za0 y) 1, L (L za0 y) 2, L (L za0 y) 3, L (L za0 y) 4, L (L za0 y) 5, L (L za0 y) 6, L (L za0 y) 7, L (L za0 y) 8, L (L za0 y) 9, L (L za0 y) 10, L (L za0 y) 11, L (L za0 y) 12, L (L za0 y) 13, L (L za0 y) 14, L (L za0 y) 15]) 4), .int .u8 (L (L za1 [L (L za0 y) 0, L (L za0 y) 1, L (L za0 y) 2, L (L za0 y) 3, L (L za0 y) 4, L (L za0 y) 5, L (L za0 y) 6, L (L za0 y) 7, L (L za0 y) 8, L (L za0 y) 9, L (L za0 y) 10, L (L za0 y) 11, L (L za0 y) 12, L (L za0 y) 13, L (L za0 y) 14, L (L za0 y) 15]) 5), .int .u8 (L (L za1 [L (L za0 y) 0, L (L za0 y) 1, L (L za0 y) 2, L (L za0 y) 3, L (L za0 y) 4, L (L za0 y) 5, L (L za0 y) 6, L (L za0 y) 7, L (L za0 y) 8, L (L za0 y) 9, L (L za0 y) 10, L (L za0 y) 11, L (L za0 y) 12, L (L za0 y) 13, L (L za0 y) 14, L (L za0 y) 15]) 6), .int .u8 (L (L za1 [L (L za0 y) 0, L (L za0 y) 1, L (L za0 y) 2, L (L za0 y) 3, L (L za0 y) 4, L (L za0 y) 5, L (L za0 y) 6, L (L za0 y) 7, L (L za0 y) 8, L (L za0 y) 9, L (L za0 y) 10, L (L za0 y) 11, L (L za0 y) 12, L (L za0 y) 13, L (L za0 y) 14, L (L za0 y) 15]) 7), .int .u8 (L (L za1 [L (L za0 y) 0, L (L za0 y) 1, L (L za0 y) 2, L (L za0 y) 3, L (L za0 y) 4, L (L za0 y) 5, L (L za0 y) 6, L (L za0 y) 7, L (L za0 y) 8, L (L za0 y) 9, L (L za0 y) 10, L (L za0 y) 11, L (L za0 y) 12, L (L za0 y) 13, L (L za0 y) 14, L (L za0 y) 15]) 8), .int .u8 (L (L za1 [L (L za0 y) 0, L (L za0 y) 1, L (L za0 y) 2, L (L za0 y) 3, L (L za0 y) 4, L (L za0 y) 5, L (L za0 y) 6, L (L za0 y) 7, L (L za0 y) 8, L (L za0 y) 9, L (L za0 y) 10, L (L za0 y) 11, L (L za0 y) 12, L (L za0 y) 13, L (L za0 y) 14, L (L za0 y) 15]) 9), .int .u8 (L (L za1 [L (L za0 y) 0, L (L za0 y) 1, L (L za0 y) 2, L (L za0 y) 3, L (L za0 y) 4, L (L za0 y) 5, L (L za0 y) 6, L (L za0 y) 7, L (L za0 y) 8, L (L za0 y) 9, L (L za0 y) 10, L (L za0 y) 11, L (L za0 y) 12, L (L za0 y) 13, L (L za0 y) 14, L (L za0 y) 15]) 10), .int .u8 (L (L za1 [L (L za0 y) 0, L (L za0 y) 1, L (L za0 y) 2, L (L za0 y) 3, L (L za0 y) 4, L (L za0 y) 5, L (L za0 y) 6, L (L za0 y) 7, L (L za0 y) 8, L (L za0 y) 9, L (L za0 y) 10, L (L za0 y) 11, L (L za0 y) 12, L (L za0 y) 13, L (L za0 y) 14, L (L za0 y) 15]) 11), .int .u8 (L (L za1 [L (L za0 y) 0, L (L za0 y) 1, L (L za0 y) 2, L (L za0 y) 3, L (L za0 y) 4, L (L za0 y) 5, L (L za0 y) 6, L (L za0 y) 7, L (L za0 y) 8, L (L za0 y) 9, L (L za0 y) 10, L (L za0 y) 11, L (L za0 y) 12, L (L za0 y) 13, L (L za0 y) 14, L (L za0 y) 15]) 12), .int .u8 (L (L za1 [L (L za0 y) 0, L (L za0 y) 1, L (L za0 y) 2, L (L za0 y) 3, L (L za0 y) 4, L (L za0 y) 5, L (L za0 y) 6, L (L za0 y) 7, L (L za0 y) 8, L (L za0 y) 9, L (L za0 y) 10, L (L za0 y) 11, L (L za0 y) 12, L (L za0 y) 13, L (L za0 y) 14, L (L za0 y) 15]) 13), .int .u8 (L (L za1 [L (L za0 y) 0, L (L za0 y) 1, L (L za0 y) 2, L (L za0 y) 3, L (L za0 y) 4, L (L za0 y) 5, L (L za0 y) 6, L (L za0 y) 7, L (L za0 y) 8, L (L za0 y) 9, L (L za0 y) 10, L (L za0 y) 11, L (L za0 y) 12, L (L za0 y) 13, L (L za0 y) 14, L (L za0 y) 15]) 14), .int .u8 (L (L za1 [L (L za0 y) 0, L (L za0 y) 1, L (L za0 y) 2, L (L za0 y) 3, L (L za0 y) 4, L (L za0 y) 5, L (L za0 y) 6, L (L za0 y) 7, L (L za0 y) 8, L (L za0 y) 9, L (L za0 y) 10, L (L za0 y) 11, L (L za0 y) 12, L (L za0 y) 13, L (L za0 y) 14, L (L za0 y) 15]) 15), .int .i64 d, .bool h]) = L (L (L Le.mk y) d) h := by subst hL; exact fun y d h => (zbi ⟨y, d, h⟩).2
 have hFo : ∀ (y : Pr) (d : Int) (h : Bool), (L zdc (.agg [.int .u8 (L (L za1 [L (L za0 y) 0, L (L za0 y) 1, L (L za0 y) 2, L (L za0 y) 3, L (L za0 y) 4, L (L za0 y) 5, L (L za0 y) 6, L (L za0 y) 7, L (L za0 y) 8, L (L za0 y) 9, L (L za0 y) 10, L (L za0 y) 11, L (L za0 y) 12, L (L za0 y) 13, L (L za0 y) 14, L (L za0 y) 15]) 0), .int .u8 (L (L za1 [L (L za0 y) 0, L (L za0 y) 1, L (L za0 y) 2, L (L za0 y) 3, L (L za0 y) 4, L (L za0 y) 5, L (L za0 y) 6, L (L za0 y) 7, L (L za0 y) 8, L (L za0 y) 9, L (L za0 y) 10, L (L za0 y) 11, L (L za0 y) 12, L (L za0 y) 13, L (L za0 y) 14, L (L za0 y) 15]) 1), .int .u8 (L (L za1 [L (L za0 y) 0, L (L za0 y) 1, L (L za0 y) 2, L (L za0 y) 3, L (L za0 y) 4, L (L za0 y) 5, L (L za0 y) 6, L (L za0 y) 7, L (L za0 y) 8, L (L za0 y) 9, L (L za0 y) 10, L (L za0 y) 11, L (L za0 y) 12, L (L za0 y) 13, L (L za0 y) 14, L (L za0 y) 15]) 2), .int .u8 (L (L za1 [L (L za0 y) 0, L (L za0 y) 1, L (L za0 y) 2, L (L za0 y) 3, L (L za0 y) 4, L (L za0 y) 5, L (L za0 y) 6, L (L za0 y) 7, L (L za0 y) 8, L (L za0 y) 9, L (L za0 y) 10, L (L za0 y) 11, L (L za0 y) 12, L (L za0 y) 13, L (L za0 y) 14, L (L za0 y) 15]) 3), .int .u8 (L (L za1 [L (L za0 y) 0, L (L za0 y) 1, L (L za0 y) 2, L (L za0 y) 3, L (L za0 y) 4, L (L za0 y) 5, L (L za0 y) 6, L (L za0 y) 7, L (L za0 y) 8, L (L za0 y) 9, L (L za0 y) 10, L (L za0 y) 11, L (L za0 y) 12, L (L za0 y) 13, L (L za0 y) 14, L (L za0 y) 15]) 4), .int .u8 (L (L za1 [L (L za0 y) 0, L (L za0 y) 1, L (L za0 y) 2, L (L za0 y) 3, L (L za0 y) 4, L (L za0 y) 5, L (L za0 y) 6, L (L za0 y) 7, L (L za0 y) 8, L (L za0 y) 9, L (L za0 y) 10, L (L za0 y) 11, L (L za0 y) 12, L (L za0 y) 13, L (L za0 y) 14, L (L za0 y) 15]) 5), .int .u8 (L (L za1 [L (L za0 y) 0, L (L za0 y) 1, L (L za0 y) 2, L (L za0 y) 3, L (L za0 y) 4, L (L za0 y) 5, L (L za0 y) 6, L (L za0 y) 7, L (L za0 y) 8, L (L za0 y) 9, L (L za0 y) 10, L (L za0 y) 11, L (L za0 y) 12, L (L za0 y) 13, L (L za0 y) 14, L (L za0 y) 15]) 6), .int .u8 (L (L za1 [L (L za0 y) 0, L (L za0 y) 1, L (L za0 y) 2, L (L za0 y) 3, L (L za0 y) 4, L (L za0 y) 5, L (L za0 y) 6, L (L za0 y) 7, L (L za0 y) 8, L (L za0 y) 9, L (L za0 y) 10, L (L za0 y) 11, L (L za0 y) 12, L (L za0 y) 13, L (L za0 y) 14, L (L za0 y) 15]) 7), .int .u8 (L (L za1 [L (L za0 y) 0, L (L za0 y) 1, L (L za0 y) 2, L (L za0 y) 3, L (L za0 y) 4, L (L za0 y) 5, L (L za0 y) 6, L (L za0 y) 7, L (L za0 y) 8, L (L za0 y) 9, L (L za0 y) 10, L (L za0 y) 11, L (L za0 y) 12, L (L za0 y) 13, L (L za0 y) 14, L (L za0 y) 15]) 8), .int .u8 (L (L za1 [L (L za0 y) 0, L (L za0 y) 1, L (L za0 y) 2, L (L za0 y) 3, L (L za0 y) 4, L (L za0 y) 5, L (L za0 y) 6, L (L za0 y) 7, L (L za0 y) 8, L (L za0 y) 9, L (L za0 y) 10, L (L za0 y) 11, L (L za0 y) 12, L (L za0 y) 13, L (L za0 y) 14, L (L za0 y) 15]) 9), .int .u8 (L (L za1 [L (L za0 y) 0, L (L za0 y) 1, L (L za0 y) 2, L (L za0 y) 3, L (L za0 y) 4, L (L za0 y) 5, L (L za0 y) 6, L (L za0 y) 7, L (L za0 y) 8, L (L za0 y) 9, L (L za0 y) 10, L (L za0 y) 11, L (L za0 y) 12, L (L za0 y) 13, L (L za0 y) 14, L (L za0 y) 15]) 10), .int .u8 (L (L za1 [L (L za0 y) 0, L (L za0 y) 1, L (L za0 y) 2, L (L za0 y) 3, L (L za0 y) 4, L (L za0 y) 5, L (L za0 y) 6, L (L za0 y) 7, L (L za0 y) 8, L (L za0 y) 9, L (L za0 y) 10, L (L za0 y) 11, L (L za0 y) 12, L (L za0 y) 13, L (L za0 y) 14, L (L za0 y) 15]) 11), .int .u8 (L (L za1 [L (L za0 y) 0, L (L za0 y) 1, L (L za0 y) 2, L (L za0 y) 3, L (L za0 y) 4, L (L za0 y) 5, L (L za0 y) 6, L (L za0 y) 7, L (L za0 y) 8, L (L za0 y) 9, L (L za0 y) 10, L (L za0 y) 11, L (L za0 y) 12, L (L za0 y) 13, L (L za0 y) 14, L (L za0 y) 15]) 12), .int .u8 (L (L za1 [L (L za0 y) 0, L (L za0 y) 1, L (L za0 y) 2, L (L za0 y) 3, L (L za0 y) 4, L (L za0 y) 5, L (L za0 y) 6, L (L za0 y) 7, L (L za0 y) 8, L (L za0 y) 9, L (L za0 y) 10, L (L za0 y) 11, L (L za0 y) 12, L (L za0 y) 13, L (L za0 y) 14, L (L za0 y) 15]) 13), .int .u8 (L (L za1 [L (L za0 y) 0, L (L za0 y) 1, L (L za0 y) 2, L (L za0 y) 3, L (L za0 y) 4, L (L za0 y) 5, L (L za0 y) 6, L (L za0 y) 7, L (L za0 y) 8, L (L za0 y) 9, L (L za0 y) 10, L (L za0 y) 11, L (L za0 y) 12, L (L za0 y) 13, L (L za0 y) 14, L (L za0 y) 15]) 14), .int .u8 (L (L za1 [L (L za0 y) 0, L (L za0 y) 1, L (L za0 y) 2, L (L za0 y) 3, L (L za0 y) 4, L (L za0 y) 5, L (L za0 y) 6, L (L za0 y) 7, L (L za0 y) 8, L (L za0 y) 9, L (L za0 y) 10, L (L za0 y) 11, L (L za0 y) 12, L (L za0 y) 13, L (L za0 y) 14, L (L za0 y) 15]) 15), .int .i64 d, .bool h])) = True := by subst hL; exact fun y d h => eq_true (zbi ⟨y, d, h⟩).1
 have hEta : ∀ y : Le, L (L (L Le.mk (L Le.p y)) (L Le.d y)) (L Le.h y) = y := by subst hL; exact fun y => rfl
 have hMp : ∀ (y : Pr) (d : Int) (h : Bool), L Le.p (L (L (L Le.mk y) d) h) = y := by subst hL; exact fun y d h => rfl
 have hQ0 : ∀ y : Pr, L zal (.agg [.int .u8 (L (L za0 y) 0), .int .u8 (L (L za0 y) 1), .int .u8 (L (L za0 y) 2), .int .u8 (L (L za0 y) 3), .int .u8 (L (L za0 y) 4), .int .u8 (L (L za0 y) 5), .int .u8 (L (L za0 y) 6), .int .u8 (L (L za0 y) 7), .int .u8 (L (L za0 y) 8), .int .u8 (L (L za0 y) 9), .int .u8 (L (L za0 y) 10), .int .u8 (L (L za0 y) 11), .int .u8 (L (L za0 y) 12), .int .u8 (L (L za0 y) 13), .int .u8 (L (L za0 y) 14), .int .u8 (L (L za0 y) 15)]) = y := by subst hL; exact fun y => (zbh y).2
 have hQo : ∀ y : Pr, (L zcl (.agg [.int .u8 (L (L za0 y) 0), .int .u8 (L (L za0 y) 1), .int .u8 (L (L za0 y) 2), .int .u8 (L (L za0 y) 3), .int .u8 (L (L za0 y) 4), .int .u8 (L (L za0 y) 5), .int .u8 (L (L za0 y) 6), .int .u8 (L (L za0 y) 7), .int .u8 (L (L za0 y) 8), .int .u8 (L (L za0 y) 9), .int .u8 (L (L za0 y) 10), .int .u8 (L (L za0 y) 11), .int .u8 (L (L za0 y) 12), .int .u8 (L (L za0 y) 13), .int .u8 (L (L za0 y) 14), .int .u8 (L (L za0 y) 15)])) = True := by subst hL; exact fun y => eq_true (zbh y).1
 have hQ1 : ∀ y : Pr, L zal (.agg [.int .u8 (L (L za1 [L (L za0 y) 0, L (L za0 y) 1, L (L za0 y) 2, L (L za0 y) 3, L (L za0 y) 4, L (L za0 y) 5, L (L za0 y) 6, L (L za0 y) 7, L (L za0 y) 8, L (L za0 y) 9, L (L za0 y) 10, L (L za0 y) 11, L (L za0 y) 12, L (L za0 y) 13, L (L za0 y) 14, L (L za0 y) 15]) 0), .int .u8 (L (L za1 [L (L za0 y) 0, L (L za0 y) 1, L (L za0 y) 2, L (L za0 y) 3, L (L za0 y) 4, L (L za0 y) 5, L (L za0 y) 6, L (L za0 y) 7, L (L za0 y) 8, L (L za0 y) 9, L (L za0 y) 10, L (L za0 y) 11, L (L za0 y) 12, L (L za0 y) 13, L (L za0 y) 14, L (L za0 y) 15]) 1), .int .u8 (L (L za1 [L (L za0 y) 0, L (L za0 y) 1, L (L za0 y) 2, L (L za0 y) 3, L (L za0 y) 4, L (L za0 y) 5, L (L za0 y) 6, L (L za0 y) 7, L (L za0 y) 8, L (L za0 y) 9, L (L za0 y) 10, L (L za0 y) 11, L (L za0 y) 12, L (L za0 y) 13, L (L za0 y) 14, L (L za0 y) 15]) 2), .int .u8 (L (L za1 [L (L za0 y) 0, L (L za0 y) 1, L (L za0 y) 2, L (L za0 y) 3, L (L za0 y) 4, L (L za0 y) 5, L (L za0 y) 6, L (L za0 y) 7, L (L za0 y) 8, L (L za0 y) 9, L (L za0 y) 10, L (L za0 y) 11, L (L za0 y) 12, L (L za0 y) 13, L (L za0 y) 14, L (L za0 y) 15]) 3), .int .u8 (L (L za1 [L (L za0 y) 0, L (L za0 y) 1, L (L za0 y) 2, L (L za0 y) 3, L (L za0 y) 4, L (L za0 y) 5, L (L za0 y) 6, L (L za0 y) 7, L (L za0 y) 8, L (L za0 y) 9, L (L za0 y) 10, L (L za0 y) 11, L (L za0 y) 12, L (L za0 y) 13, L (L za0 y) 14, L (L za0 y) 15]) 4), .int .u8 (L (L za1 [L (L za0 y) 0, L (L za0 y) 1, L (L za0 y) 2, L (L za0 y) 3, L (L za0 y) 4, L (L za0 y) 5, L (L za0 y) 6, L (L za0 y) 7, L (L za0 y) 8, L (L za0 y) 9, L (L za0 y) 10, L (L za0 y) 11, L (L za0 y) 12, L (L za0 y) 13, L (L za0 y) 14, L (L za0 y) 15]) 5), .int .u8 (L (L za1 [L (L za0 y) 0, L (L za0 y) 1, L (L za0 y) 2, L (L za0 y) 3, L (L za0 y) 4, L (L za0 y) 5, L (L za0 y) 6, L (L za0 y) 7, L (L za0 y) 8, L (L za0 y) 9, L (L za0 y) 10, L (L za0 y) 11, L (L za0 y) 12, L (L za0 y) 13, L (L za0 y) 14, L (L za0 y) 15]) 6), .int .u8 (L (L za1 [L (L za0 y) 0, L (L za0 y) 1, L (L za0 y) 2, L (L za0 y) 3, L (L za0 y) 4, L (L za0 y) 5, L (L za0 y) 6, L (L za0 y) 7, L (L za0 y) 8, L (L za0 y) 9, L (L za0 y) 10, L (L za0 y) 11, L (L za0 y) 12, L (L za0 y) 13, L (L za0 y) 14, L (L za0 y) 15]) 7), .int .u8 (L (L za1 [L (L za0 y) 0, L (L za0 y) 1, L (L za0 y) 2, L (L za0 y) 3, L (L za0 y) 4, L (L za0 y) 5, L (L za0 y) 6, L (L za0 y) 7, L (L za0 y) 8, L (L za0 y) 9, L (L za0 y) 10, L (L za0 y) 11, L (L za0 y) 12, L (L za0 y) 13, L (L za0 y) 14, L (L za0 y) 15]) 8), .int .u8 (L (L za1 [L (L za0 y) 0, L (L za0 y) 1, L (L za0 y) 2, L (L za0 y) 3, L (L za0 y) 4, L (L za0 y) 5, L (L za0 y) 6, L (L za0 y) 7, L (L za0 y) 8, L (L za0 y) 9, L (L za0 y) 10, L (L za0 y) 11, L (L za0 y) 12, L (L za0 y) 13, L (L za0 y) 14, L (L za0 y) 15]) 9), .int .u8 (L (L za1 [L (L za0 y) 0, L (L za0 y) 1, L (L za0 y) 2, L (L za0 y) 3, L (L za0 y) 4, L (L za0 y) 5, L (L za0 y) 6, L (L za0 y) 7, L (L za0 y) 8, L (L za0 y) 9, L (L za0 y) 10, L (L za0 y) 11, L (L za0 y) 12, L (L za0 y) 13, L (L za0 y) 14, L (L za0 y) 15]) 10), .int .u8 (L (L za1 [L (L za0 y) 0, L (L za0 y) 1, L (L za0 y) 2, L (L za0 y) 3, L (L za0 y) 4, L (L za0 y) 5, L (L za0 y) 6, L (L za0 y) 7, L (L za0 y) 8, L (L za0 y) 9, L (L za0 y) 10, L (L za0 y) 11, L (L za0 y) 12, L (L za0 y) 13, L (L za0 y) 14, L (L za0 y) 15]) 11), .int .u8 (L (L za1 [L (L za0 y) 0, L (L za0 y) 1, L (L za0 y) 2, L (L za0 y) 3, L (L za0 y) 4, L (L za0 y) 5, L (L za0 y) 6, L (L za0 y) 7, L (L za0 y) 8, L (L za0 y) 9, L (L za0 y) 10, L (L za0 y) 11, L (L za0 y) 12, L (L za0 y) 13, L (L za0 y) 14, L (L za0 y) 15]) 12), .int .u8 (L (L za1 [L (L za0 y) 0, L (L za0 y) 1, L (L za0 y) 2, L (L za0 y) 3, L (L za0 y) 4, L (L za0 y) 5, L (L za0 y) 6, L (L za0 y) 7, L (L za0 y) 8, L (L za0 y) 9, L (L za0 y) 10, L (L za0 y) 11, L (L za0 y) 12, L (L za0 y) 13, L (L za0 y) 14, L (L za0 y) 15]) 13), .int .u8 (L (L za1 [L (L za0 y) 0, L (L za0 y) 1, L (L za0 y) 2, L (L za0 y) 3, L (L za0 y) 4, L (L za0 y) 5, L (L za0 y) 6, L (L za0 y) 7, L (L za0 y) 8, L (L za0 y) 9, L (L za0 y) 10, L (L za0 y) 11, L (L za0 y) 12, L (L za0 y) 13, L (L za0 y) 14, L (L za0 y) 15]) 14), .int .u8 (L (L za1 [L (L za0 y) 0, L (L za0 y) 1, L (L za0 y) 2, L (L za0 y) 3, L (L za0 y) 4, L (L za0 y) 5, L (L za0 y) 6, L (L za0 y) 7, L (L za0 y) 8, L (L za0 y) 9, L (L za0 y) 10, L (L za0 y) 11, L (L za0 y) 12, L (L za0 y) 13, L (L za0 y) 14, L (L za0 y) 15]) 15)]) = y := by subst hL; exact fun y => (zbh y).2
 have hQ1o : ∀ y : Pr, (L zcl (.agg [.int .u8 (L (L za1 [L (L za0 y) 0, L (L za0 y) 1, L (L za0 y) 2, L (L za0 y) 3, L (L za0 y) 4, L (L za0 y) 5, L (L za0 y) 6, L (L za0 y) 7, L (L za0 y) 8, L (L za0 y) 9, L (L za0 y) 10, L (L za0 y) 11, L (L za0 y) 12, L (L za0 y) 13, L (L za0 y) 14, L (L za0 y) 15]) 0), .int .u8 (L (L za1 [L (L za0 y) 0, L (L za0 y) 1, L (L za0 y) 2, L (L za0 y) 3, L (L za0 y) 4, L (L za0 y) 5, L (L za0 y) 6, L (L za0 y) 7, L (L za0 y) 8, L (L za0 y) 9, L (L za0 y) 10, L (L za0 y) 11, L (L za0 y) 12, L (L za0 y) 13, L (L za0 y) 14, L (L za0 y) 15]) 1), .int .u8 (L (L za1 [L (L za0 y) 0, L (L za0 y) 1, L (L za0 y) 2, L (L za0 y) 3, L (L za0 y) 4, L (L za0 y) 5, L (L za0 y) 6, L (L za0 y) 7, L (L za0 y) 8, L (L za0 y) 9, L (L za0 y) 10, L (L za0 y) 11, L (L za0 y) 12, L (L za0 y) 13, L (L za0 y) 14, L (L za0 y) 15]) 2), .int .u8 (L (L za1 [L (L za0 y) 0, L (L za0 y) 1, L (L za0 y) 2, L (L za0 y) 3, L (L za0 y) 4, L (L za0 y) 5, L (L za0 y) 6, L (L za0 y) 7, L (L za0 y) 8, L (L za0 y) 9, L (L za0 y) 10, L (L za0 y) 11, L (L za0 y) 12, L (L za0 y) 13, L (L za0 y) 14, L (L za0 y) 15]) 3), .int .u8 (L (L za1 [L (L za0 y) 0, L (L za0 y) 1, L (L za0 y) 2, L (L za0 y) 3, L (L za0 y) 4, L (L za0 y) 5, L (L za0 y) 6, L (L za0 y) 7, L (L za0 y) 8, L (L za0 y) 9, L (L za0 y) 10, L (L za0 y) 11, L (L za0 y) 12, L (L za0 y) 13, L (L za0 y) 14, L (L za0 y) 15]) 4), .int .u8 (L (L za1 [L (L za0 y) 0, L (L za0 y) 1, L (L za0 y) 2, L (L za0 y) 3, L (L za0 y) 4, L (L za0 y) 5, L (L za0 y) 6, L (L za0 y) 7, L (L za0 y) 8, L (L za0 y) 9, L (L za0 y) 10, L (L za0 y) 11, L (L za0 y) 12, L (L za0 y) 13, L (L za0 y) 14, L (L za0 y) 15]) 5), .int .u8 (L (L za1 [L (L za0 y) 0, L (L za0 y) 1, L (L za0 y) 2, L (L za0 y) 3, L (L za0 y) 4, L (L za0 y) 5, L (L za0 y) 6, L (L za0 y) 7, L (L za0 y) 8, L (L za0 y) 9, L (L za0 y) 10, L (L za0 y) 11, L (L za0 y) 12, L (L za0 y) 13, L (L za0 y) 14, L (L za0 y) 15]) 6), .int .u8 (L (L za1 [L (L za0 y) 0, L (L za0 y) 1, L (L za0 y) 2, L (L za0 y) 3, L (L za0 y) 4, L (L za0 y) 5, L (L za0 y) 6, L (L za0 y) 7, L (L za0 y) 8, L (L za0 y) 9, L (L za0 y) 10, L (L za0 y) 11, L (L za0 y) 12, L (L za0 y) 13, L (L za0 y) 14, L (L za0 y) 15]) 7), .int .u8 (L (L za1 [L (L za0 y) 0, L (L za0 y) 1, L (L za0 y) 2, L (L za0 y) 3, L (L za0 y) 4, L (L za0 y) 5, L (L za0 y) 6, L (L za0 y) 7, L (L za0 y) 8, L (L za0 y) 9, L (L za0 y) 10, L (L za0 y) 11, L (L za0 y) 12, L (L za0 y) 13, L (L za0 y) 14, L (L za0 y) 15]) 8), .int .u8 (L (L za1 [L (L za0 y) 0, L (L za0 y) 1, L (L za0 y) 2, L (L za0 y) 3, L (L za0 y) 4, L (L za0 y) 5, L (L za0 y) 6, L (L za0 y) 7, L (L za0 y) 8, L (L za0 y) 9, L (L za0 y) 10, L (L za0 y) 11, L (L za0 y) 12, L (L za0 y) 13, L (L za0 y) 14, L (L za0 y) 15]) 9), .int .u8 (L (L za1 [L (L za0 y) 0, L (L za0 y) 1, L (L za0 y) 2, L (L za0 y) 3, L (L za0 y) 4, L (L za0 y) 5, L (L za0 y) 6, L (L za0 y) 7, L (L za0 y) 8, L (L za0 y) 9, L (L za0 y) 10, L (L za0 y) 11, L (L za0 y) 12, L (L za0 y) 13, L (L za0 y) 14, L (L za0 y) 15]) 10), .int .u8 (L (L za1 [L (L za0 y) 0, L (L za0 y) 1, L (L za0 y) 2, L (L za0 y) 3, L (L za0 y) 4, L (L za0 y) 5, L (L za0 y) 6, L (L za0 y) 7, L (L za0 y) 8, L (L za0 y) 9, L (L za0 y) 10, L (L za0 y) 11, L (L za0 y) 12, L (L za0 y) 13, L (L za0 y) 14, L (L za0 y) 15]) 11), .int .u8 (L (L za1 [L (L za0 y) 0, L (L za0 y) 1, L (L za0 y) 2, L (L za0 y) 3, L (L za0 y) 4, L (L za0 y) 5, L (L za0 y) 6, L (L za0 y) 7, L (L za0 y) 8, L (L za0 y) 9, L (L za0 y) 10, L (L za0 y) 11, L (L za0 y) 12, L (L za0 y) 13, L (L za0 y) 14, L (L za0 y) 15]) 12), .int .u8 (L (L za1 [L (L za0 y) 0, L (L za0 y) 1, L (L za0 y) 2, L (L za0 y) 3, L (L za0 y) 4, L (L za0 y) 5, L (L za0 y) 6, L (L za0 y) 7, L (L za0 y) 8, L (L za0 y) 9, L (L za0 y) 10, L (L za0 y) 11, L (L za0 y) 12, L (L za0 y) 13, L (L za0 y) 14, L (L za0 y) 15]) 13), .int .u8 (L (L za1 [L (L za0 y) 0, L (L za0 y) 1, L (L za0 y) 2, L (L za0 y) 3, L (L za0 y) 4, L (L za0 y) 5, L (L za0 y) 6, L (L za0 y) 7, L (L za0 y) 8, L (L za0 y) 9, L (L za0 y) 10, L (L za0 y) 11, L (L za0 y) 12, L (L za0 y) 13, L (L za0 y) 14, L (L za0 y) 15]) 14), .int .u8 (L (L za1 [L (L za0 y) 0, L (L za0 y) 1, L (L za0 y) 2, L (L za0 y) 3, L (L za0 y) 4, L (L za0 y) 5, L (L za0 y) 6, L (L za0 y) 7, L (L za0 y) 8, L (L za0 y) 9, L (L za0 y) 10, L (L za0 y) 11, L (L za0 y) 12, L (L za0 y) 13, L (L za0 y) 14, L (L za0 y) 15]) 15)])) = True := by subst hL; exact fun y => eq_true (zbh y).1
 have hG : ∀ y : List Le, L zaf (.lst 18 (L zf5 y) (fun i => leC L (L (L zao y) i))) = y := by subst hL; exact fun y => zh6 y
 have hGo : ∀ y : List Le, (L ze7 (.lst 18 (L zf5 y) (fun i => leC L (L (L zao y) i)))) = True := by subst hL; exact fun y => eq_true (zlg y)
 (cbv; try simp only [syT, true_and, and_true])
 simp only [hE, hEo, hF, hFo, hEta, hMp, hQ1, hQ1o, hQ0, hQo, hG, hGo, true_and]
 subst hL; subst hQ
 exact ⟨⟨hz, hok, hpo⟩, by simp [zjj, zdo, zhl, zhm, zmd, std]⟩
theorem zj1 : zcb Tryz.prog (yb0 28 33 18 std) := by
 intro raw ob T h hp
 unfold yb0 at h
 simp only at h
 split at h
 rotate_left
 · cases h
 rename_i s n get
 cases hs : zam s 18 with
 | false => rw [hs] at h; cases h
 | true =>
 rw [hs] at h
 cases h
 have hp : n <= 1000000 := hp
 refine ymh (fun h0 => ?_) (fun h0 => ?_) (fun h0 => ?_)
 · refine zak (T := tt) (S := noS) (lo := noA) (lb := noA) 5 (fn := Tryz.f28) (xs := fun L => [.lst 18 n get]) (rts := fun _ => [.sl 900 18 0 n]) (O := fun L => []) (O1 := fun L => [(900, .row 33 18 n get)]) rfl rfl (by kernel_rfl) (by kernel_rfl) (by kernel_rfl) zae (zdx _) (by kernel_rfl) ?_
   intro L P' Q' hL hP hQ
   (cbv; try simp only [syT, true_and, and_true])
   (subst hL; subst hQ; simp only [L2, L3, std] at *; try simp only [syS, reduceCtorEq, Int.reduceToNat, Int.reduceAdd, Int.reduceSub] at *)
   simp only [zbo] at *
   exact ⟨h0, Nat.le_trans (Nat.mul_le_mul_right _ (show 0 + n <= 1000000 by omega)) (by decide), by omega⟩
 · refine zak (T := tt) (S := noS) (lo := noA) (lb := noA) 5 (fn := Tryz.f28) (xs := fun L => [.nils]) (rts := fun _ => [.sl 900 18 0 n]) (O := fun L => []) (O1 := fun L => [(900, .row 33 18 n get)]) rfl rfl (by kernel_rfl) (by kernel_rfl) (by kernel_rfl) zae (zdx _) (by kernel_rfl) ?_
   intro L P' Q' hL hP hQ
   (cbv; try simp only [syT, true_and, and_true])
   (subst hL; subst hQ; simp only [L2, L3, std] at *; try simp only [syS, reduceCtorEq, Int.reduceToNat, Int.reduceAdd, Int.reduceSub] at *)
   exact ⟨by omega, by omega⟩
 · refine zak (T := tt) (S := noS) (lo := noA) (lb := noA) 5 (fn := Tryz.f28) (xs := fun L => [.emp]) (rts := fun _ => [.sl 900 18 0 n]) (O := fun L => []) (O1 := fun L => [(900, .row 33 18 n get)]) rfl rfl (by kernel_rfl) (by kernel_rfl) (by kernel_rfl) zae (zdx _) (by kernel_rfl) ?_
   intro L P' Q' hL hP hQ
   (cbv; try simp only [syT, true_and, and_true])
   (subst hL; subst hQ; simp only [L2, L3, std] at *; try simp only [syS, reduceCtorEq, Int.reduceToNat, Int.reduceAdd, Int.reduceSub] at *)
   exact ⟨⟨by omega, by omega⟩, ⟨by omega, fun i j hi hj => by omega⟩, by omega⟩
theorem ylk : (Tryz.prog.info? 33).map (·.size) = some 18 := by kernel_rfl
theorem zr0 : zcb Tryz.prog (zyl 63) := by
 have h1 : Tryz.prog.funcs[63]? = some Tryz.f63 := rfl
 have h2 : (Tryz.f63.name == "runtime.NumGoroutine") = false := by kernel_rfl
 have h3 : Tryz.f63.body.isNone = true := by kernel_rfl
 have h4 : Extern.findNext Tryz.f63 = none := by kernel_rfl
 have h5 : Extern.find Tryz.f63 = some (Extern.SlicesOverlaps.overlaps #[23, 23] #[4]) := by kernel_rfl
 have h6 : ∀ w, (Go.sizeOf 33).run Tryz.prog w = .ok 18 w := by
   intro w
   obtain ⟨i, hi, hs⟩ := Option.map_eq_some_iff.1 ylk
   simp [Go.sizeOf, typeInfo, program, Sem.run, hi, hs]
 exact ydc (P := Tryz.prog) (f := 63) (fn := Tryz.f63) (tS := 23) (tR := 4) (e := 33) (esz := 18) h1 h2 h3 h4 h5 Tryz.underlying23 h6
theorem yej {n n1 k : Nat} {i : Int} {get gv : Nat -> Nat -> AV} (hn : n <= 1000000) (hi : i = k) (h1 : k <= n) (hn1 : n1 = n + 1) : zaq Tryz.prog 46 [.sl 500000 18 0 n, .int .i64 i, .sl 500001 18 0 1] [(500000, .row 33 18 n get), (500001, .row 33 18 1 gv)] (.sl 900 18 0 n1) [(900, .row 33 18 n1 (ygj get gv k))] := by
 refine zp8 (T := tt) (S := fun L => zb3 [] [zyl 63]) (lo := noA) (lb := noA) 5 (fn := Tryz.f46) (xs := fun L => [.sl 500000 18 0 n, .int .i64 i, .sl 500001 18 0 1]) (rts := fun _ => [.sl 900 18 0 n1]) (O := fun L => [(500000, .row 33 18 n get), (500001, .row 33 18 1 gv)]) (O1 := fun L => [(900, .row 33 18 n1 (ygj get gv k))]) rfl rfl (by kernel_rfl) (by kernel_rfl) (by kernel_rfl) zae (zaa trivial ⟨zr0, trivial⟩) (by kernel_rfl) ?_
 intro L P' Q' hL hP hQ
 (cbv; try simp only [syT, true_and, and_true])
 intro cap hcap
 cbv at hcap
 (cbv; try simp only [syT, true_and, and_true])
 subst hL; subst hQ
 have hcap : n <= cap := hcap
 have hs1 : ∀ (x : Nat), std Int.toNat ((x : Nat) : Int) = x := fun x => rfl
 have hi2 : i = ((k : Nat) : Int) := hi
 clear hi
 subst hi2; subst hn1
 have w1 : zc6 .i64 (zac n) (zac 1) = zac (n + 1) := by simp only [zc6, zdi, zb1]; omega
 have w2 : zs8 .i64 (zac (n + 1)) (k : Int) = zac (n + 1 - k) := by simp only [zs8, zdi, zb1]; omega
 have w3 : zc6 .i64 (k : Int) (zac 1) = zac (k + 1) := by simp only [zc6, zdi, zb1]; omega
 simp only [L2, L3, std, w1, w2, w3] at *
 simp only [sySet, ya0, yn4, yn5, yg8, yg9, yg6, yg7, yd4, ygv, yfq, Int.toNat_natCast, zb1, zx7, zx9, ygj, yhm 18 (by decide), ymf] at *
 repeat' first | refine And.intro ?_ ?_ | (intro _)
 all_goals try omega
 all_goals try contradiction
 all_goals try (rename_i q j hq hj; repeat' split)
 all_goals first | rfl | (exfalso; omega) | exact congrFun (congrArg _ (by omega)) _ | skip
theorem zvq : zcb Tryz.prog (yq4 46 33 18 std) := by
 intro raw ob T h hp
 unfold yq4 at h
 simp only at h
 split at h
 rotate_left
 · cases h
 rename_i a s n i b s'
 split at h
 rotate_left
 · cases h
 cases h
 obtain ⟨p1, p2, p3⟩ : yek n i := hp
 exact yej p1 (k := i.toNat) (by omega) (by omega) rfl
theorem yf6 {n n1 k : Nat} {i j : Int} {get : Nat -> Nat -> AV} (hn : n <= 1000000) (hi : i = k) (hj : j = i + 1) (h1 : k < n) (hn1 : n1 = n - 1) : zaq Tryz.prog 27 [.sl 500000 18 0 n, .int .i64 i, .int .i64 j] [(500000, .row 33 18 n get)] (.sl 900 18 0 n1) [(900, .row 33 18 n1 (zql get k))] := by
 refine zp8 (T := tt) (S := fun L => zb3 [] []) (lo := noA) (lb := noA) 5 (fn := Tryz.f27) (xs := fun L => [.sl 500000 18 0 n, .int .i64 i, .int .i64 j]) (rts := fun _ => [.sl 900 18 0 n1]) (O := fun L => [(500000, .row 33 18 n get)]) (O1 := fun L => [(900, .row 33 18 n1 (zql get k))]) rfl rfl (by kernel_rfl) (by kernel_rfl) (by kernel_rfl) zae (zaa trivial trivial) (by kernel_rfl) ?_
 intro L P' Q' hL hP hQ
 (cbv; try simp only [syT, true_and, and_true])
 intro cap hcap
 cbv at hcap
 (cbv; try simp only [syT, true_and, and_true])
 subst hL; subst hQ
 have hcap : n <= cap := hcap
 have hi2 : i = ((k : Nat) : Int) := hi
 clear hi
 subst hi2; subst hj; subst hn1
 have e1 : ((k : Int) + 1).toNat = k + 1 := by omega
 simp only [L2, L3, std] at *
 simp only [sySet, ya0, yn4, yn5, yg8, yg9, yg6, yg7, ygv, yfq, Int.toNat_natCast, e1, zb1, zx7, zx9, zql, Bool.true_and] at *
 repeat' first | refine And.intro ?_ ?_ | (intro _)
 all_goals try omega
 all_goals try contradiction
 all_goals try (rename_i q j hq hj; repeat' split)
 all_goals first | rfl | (exfalso; omega) | exact congrFun (congrArg _ (by omega)) _ | skip
theorem zmi : zcb Tryz.prog (yqc 27 33 18 std) := by
 intro raw ob T h hp
 unfold yqc at h
 simp only at h
 split at h
 rotate_left
 · cases h
 rename_i a s n i j
 split at h
 rotate_left
 · cases h
 cases h
 obtain ⟨p1, p2, p3, p4⟩ : yf7 n i j := hp
 exact yf6 p1 (k := i.toNat) (by omega) p4 (by omega) rfl
def clLe (L : za8) : zfq := yb0 28 33 18 L
def inLe (L : za8) : zfq := yq4 46 33 18 L
def dlLe (L : za8) : zfq := yqc 27 33 18 L
theorem yar {l : List Le} {k i : Nat} (hk : k < l.length) (j : Nat) : zql (fun i => leC std (zao l i)) k i j = leC std (zao (zei k l) i) j := by
 have e : zao (zei k l) i = if i < k then zao l i else zao l (i + 1) := by
   unfold zao zyt zei
   simp only [List.getD_eq_getElem?_getD]
   by_cases h : i < k
   · rw [if_pos h, List.getElem?_append_left (by rw [List.length_take]; omega), List.getElem?_take, if_pos h]
   · rw [if_neg h, List.getElem?_append_right (by rw [List.length_take]; omega), List.length_take, List.getElem?_drop, show k + 1 + (i - min k l.length) = i + 1 by omega]
 rw [e]
 unfold zql
 split <;> rfl
theorem zzy {l : List Le} {e : Le} {g : Nat -> Nat -> AV} (hg : ∀ j, j < 18 -> g 0 j = leC std e j) {k i : Nat} (hk : k <= l.length) {j : Nat} (hj : j < 18) : ygj (fun i => leC std (zao l i)) g k i j = leC std (zao (ycb k e l) i) j := by
 have ee : zao (ycb k e l) i = if i < k then zao l i else if i = k then e else zao l (i - 1) := by
   unfold zao zyt ycb
   simp only [List.getD_eq_getElem?_getD]
   by_cases h : i < k
   · rw [if_pos h, List.getElem?_append_left (by rw [List.length_take]; omega), List.getElem?_take, if_pos h]
   · rw [if_neg h, List.getElem?_append_right (by rw [List.length_take]; omega), List.length_take, Nat.min_eq_left hk]
     by_cases h2 : i = k
     · rw [if_pos h2, h2, Nat.sub_self]; rfl
     · rw [if_neg h2]
       obtain ⟨r, hr⟩ : ∃ r, i - k = r + 1 := ⟨i - k - 1, by omega⟩
       rw [hr, List.getElem?_cons_succ, List.getElem?_drop, show k + r = i - 1 by omega]
 rw [ee]
 unfold ygj
 split
 · rfl
 · split
   · exact hg j hj
   · rfl
theorem ygf (e : Le) {j : Nat} (hj : j < 18) : zc3 AV.dead [.int .u8 (za0 e.p 0), .int .u8 (za0 e.p 1), .int .u8 (za0 e.p 2), .int .u8 (za0 e.p 3), .int .u8 (za0 e.p 4), .int .u8 (za0 e.p 5), .int .u8 (za0 e.p 6), .int .u8 (za0 e.p 7), .int .u8 (za0 e.p 8), .int .u8 (za0 e.p 9), .int .u8 (za0 e.p 10), .int .u8 (za0 e.p 11), .int .u8 (za0 e.p 12), .int .u8 (za0 e.p 13), .int .u8 (za0 e.p 14), .int .u8 (za0 e.p 15), .int .i64 e.d, .bool e.h] j = leC std e j := by
 match j, hj with
 | 0, _ => rfl
 | 1, _ => rfl
 | 2, _ => rfl
 | 3, _ => rfl
 | 4, _ => rfl
 | 5, _ => rfl
 | 6, _ => rfl
 | 7, _ => rfl
 | 8, _ => rfl
 | 9, _ => rfl
 | 10, _ => rfl
 | 11, _ => rfl
 | 12, _ => rfl
 | 13, _ => rfl
 | 14, _ => rfl
 | 15, _ => rfl
 | 16, _ => rfl
 | 17, _ => rfl
 | j + 18, h => omega
theorem zl2 (l : List Le) (N : Nat) (G : Nat -> Nat -> AV) (h1 : N = l.length) (h2 : ∀ i j, i < N -> j < 18 -> G i j = leC std (zao l i) j) : zfk (.agg [zci std l]) (.agg [.lst 18 N G]) := by
 show zbk (.agg [.lst 18 (zf5 l) fun i => leC std (zao l i)]) (.agg [.lst 18 N G])
 rw [zik, zdp]
 exact ⟨⟨h1, fun i j hi hj => h2 i j (by rw [h1]; exact hi) hj⟩, trivial⟩
theorem ygm (x y : Le) (h : y = x) : zfk (leA std x) (leA std y) := by
 subst h
 show zbk (leA std y) (leA std y)
 unfold leA
 simp only [zex, zil, zdp, and_self]
theorem ypd {l : List Le} {e : Le} (hl : zd6 l) (he : zhy e) (hh : zbr e.p l = true) (hk : zdl e = true) : zbx l e = ycb (zcp (prN e.p) l) e (zei (zcp (prN e.p) l) l) /\ zcp (prN e.p) l < l.length := by
 obtain ⟨h, _⟩ := (zgn hl he.1).1 hh
 refine ⟨?_, h⟩
 unfold zbx zes
 rw [if_pos hk, if_pos hh]; rfl
theorem ypc {l : List Le} {e : Le} (hl : zd6 l) (he : zhy e) (hh : zbr e.p l = true) (hk : zdl e = false) : zbx l e = zei (zcp (prN e.p) l) l /\ zcp (prN e.p) l < l.length := by
 obtain ⟨h, _⟩ := (zgn hl he.1).1 hh
 refine ⟨?_, h⟩
 unfold zbx zes
 rw [if_neg (by rw [hk]; decide), if_pos hh]; rfl
theorem ypb {l : List Le} {e : Le} (hh : zbr e.p l = false) (hk : zdl e = true) : zbx l e = ycb (zcp (prN e.p) l) e l := by
 unfold zbx zes
 rw [if_pos hk, if_neg (by rw [hh]; decide)]; rfl
theorem ylz {l : List Le} {e : Le} (hh : zbr e.p l = false) (hk : zdl e = false) : zbx l e = l := by
 unfold zbx zes
 rw [if_neg (by rw [hk]; decide), if_neg (by rw [hh]; decide)]
theorem zzr {e : Le} (h : ilt 0 e.d = true) : zdl e = true := by
 rw [zev] at h
 simp [zdl, h]
theorem zzq {e : Le} (h : e.h = true) : zdl e = true := by simp [zdl, h]
theorem ztu {e : Le} (h : ilt 0 e.d = false) (h2 : e.h = false) : zdl e = false := by
 rw [zku] at h
 simp [zdl, h2]; omega
theorem yfn {l : List Le} {e : Le} (hl : zd6 l) (he : zhy e) (hh : zbr e.p l = true) (hk : zdl e = true) : zfk (.agg [zci std (zbx l e)]) (.agg [.lst 18 (zfs l.length + 1) fun i => ygj (zql (fun i => leC std (zao l i)) (ze1 l e.p).toNat) (fun i j => zc3 AV.dead [.int .u8 (za0 e.p 0), .int .u8 (za0 e.p 1), .int .u8 (za0 e.p 2), .int .u8 (za0 e.p 3), .int .u8 (za0 e.p 4), .int .u8 (za0 e.p 5), .int .u8 (za0 e.p 6), .int .u8 (za0 e.p 7), .int .u8 (za0 e.p 8), .int .u8 (za0 e.p 9), .int .u8 (za0 e.p 10), .int .u8 (za0 e.p 11), .int .u8 (za0 e.p 12), .int .u8 (za0 e.p 13), .int .u8 (za0 e.p 14), .int .u8 (za0 e.p 15), .int .i64 e.d, .bool e.h] (i * 18 + j)) (ze1 l e.p).toNat (Nat.add 0 i)]) := by
 obtain ⟨e1, e2⟩ := ypd hl he hh hk
 have hc := zet e2
 have hi := zni (i := zcp (prN e.p) l) (e := e) (l := zei (zcp (prN e.p) l) l) (by omega)
 refine zl2 _ _ _ (by rw [e1, hi]; unfold zfs; omega) (fun i j hi hj => ?_)
 rw [e1, show Nat.add 0 i = i from Nat.zero_add i, show (ze1 l e.p).toNat = zcp (prN e.p) l from Int.toNat_natCast _]
 rw [show zql (fun i => leC std (zao l i)) (zcp (prN e.p) l) = fun i => leC std (zao (zei (zcp (prN e.p) l) l) i) from funext fun i => funext fun j => yar e2 j]
 exact zzy (fun j hj => by rw [Nat.zero_mul, Nat.zero_add]; exact ygf e hj) (by omega) hj
theorem yl7 {l : List Le} {e : Le} (hl : zd6 l) (he : zhy e) (hh : zbr e.p l = true) (hk : zdl e = false) : zfk (.agg [zci std (zbx l e)]) (.agg [.lst 18 (zfs l.length) fun i => zql (fun i => leC std (zao l i)) (ze1 l e.p).toNat (Nat.add 0 i)]) := by
 obtain ⟨e1, e2⟩ := ypc hl he hh hk
 have hc := zet e2
 refine zl2 _ _ _ (by rw [e1]; unfold zfs; omega) (fun i j hi hj => ?_)
 rw [e1, show Nat.add 0 i = i from Nat.zero_add i, show (ze1 l e.p).toNat = zcp (prN e.p) l from Int.toNat_natCast _]
 exact yar e2 j
theorem yfm {l : List Le} {e : Le} (hh : zbr e.p l = false) (hk : zdl e = true) : zfk (.agg [zci std (zbx l e)]) (.agg [.lst 18 (l.length + 1) fun i => ygj (fun i => leC std (zao l i)) (fun i j => zc3 AV.dead [.int .u8 (za0 e.p 0), .int .u8 (za0 e.p 1), .int .u8 (za0 e.p 2), .int .u8 (za0 e.p 3), .int .u8 (za0 e.p 4), .int .u8 (za0 e.p 5), .int .u8 (za0 e.p 6), .int .u8 (za0 e.p 7), .int .u8 (za0 e.p 8), .int .u8 (za0 e.p 9), .int .u8 (za0 e.p 10), .int .u8 (za0 e.p 11), .int .u8 (za0 e.p 12), .int .u8 (za0 e.p 13), .int .u8 (za0 e.p 14), .int .u8 (za0 e.p 15), .int .i64 e.d, .bool e.h] (i * 18 + j)) (ze1 l e.p).toNat (Nat.add 0 i)]) := by
 have e1 := ypb hh hk
 have hlb := zkl (prN e.p) l
 refine zl2 _ _ _ (by rw [e1, zni hlb]) (fun i j hi hj => ?_)
 rw [e1, show Nat.add 0 i = i from Nat.zero_add i, show (ze1 l e.p).toNat = zcp (prN e.p) l from Int.toNat_natCast _]
 exact zzy (fun j hj => by rw [Nat.zero_mul, Nat.zero_add]; exact ygf e hj) hlb hj
theorem yl6 {l : List Le} {e : Le} (hh : zbr e.p l = false) (hk : zdl e = false) : zfk (.agg [zci std (zbx l e)]) (.agg [.lst 18 l.length fun i => leC std (zao l (Nat.add 0 i))]) := by
 refine zl2 _ _ _ (by rw [ylz hh hk]) (fun i j hi hj => ?_)
 rw [ylz hh hk, show Nat.add 0 i = i from Nat.zero_add i]
def zzc (L : za8) : zcu := (29, fun xs => match xs with
 | [.agg [x], q] => some (L ze7 x /\ L zdc q /\ L zdz (L zaf x) /\ L zd6 (L zaf x) /\ L zhy (L zbt q), .agg [zci L (L2 L zbx (L zaf x) (L zbt q))])
 | _ => none)
theorem zne : zd7 Tryz.prog (zzc std) := by
 intro xs p r h hp
 dsimp only [zzc] at h |-
 split at h <;> cases h
 try simp only [L2, L3, std] at hp |-
 rename_i x q
 obtain ⟨ho, ho2, hz, hok, hpo⟩ := hp
 refine zw8 ze0 ho (zqh ze0 ho2 ?_)
 rw [zzl]
 have hz : zdz (zaf x) := hz
 have hok : zd6 (zaf x) := hok
 have hpo : zhy (zbt q) := hpo
 show zab _ _ (.agg [zti std leV (zaf x)] :: leA std (zbt q) :: _) (.agg [zci std (zbx (zaf x) (zbt q))])
 generalize zaf x = l at hz hok |-
 generalize zbt q = e at hpo |-
 refine zas (T := tt) (S := fun L => zb3 [zyi L] [clLe L, inLe L, dlLe L]) (lo := noA) (lb := noA) 5 (fn := Tryz.f29) (xs := fun L => [.agg [zci L l], leA L e]) rfl rfl (by kernel_rfl) (by kernel_rfl) rfl zae (zaa ⟨zn4, trivial⟩ ⟨zj1, zvq, zmi, trivial⟩) (by kernel_rfl) ?_
 intro L P' Q' hL hP hQ
 have hE : ∀ (y : Pr) (d : Int) (h : Bool), L zbt (.agg [.int .u8 (L (L za0 y) 0), .int .u8 (L (L za0 y) 1), .int .u8 (L (L za0 y) 2), .int .u8 (L (L za0 y) 3), .int .u8 (L (L za0 y) 4), .int .u8 (L (L za0 y) 5), .int .u8 (L (L za0 y) 6), .int .u8 (L (L za0 y) 7), .int .u8 (L (L za0 y) 8), .int .u8 (L (L za0 y) 9), .int .u8 (L (L za0 y) 10), .int .u8 (L (L za0 y) 11), .int .u8 (L (L za0 y) 12), .int .u8 (L (L za0 y) 13), .int .u8 (L (L za0 y) 14), .int .u8 (L (L za0 y) 15), .int .i64 d, .bool h]) = L (L (L Le.mk y) d) h := by subst hL; exact fun y d h => (zbi ⟨y, d, h⟩).2
 have hEo : ∀ (y : Pr) (d : Int) (h : Bool), (L zdc (.agg [.int .u8 (L (L za0 y) 0), .int .u8 (L (L za0 y) 1), .int .u8 (L (L za0 y) 2), .int .u8 (L (L za0 y) 3), .int .u8 (L (L za0 y) 4), .int .u8 (L (L za0 y) 5), .int .u8 (L (L za0 y) 6), .int .u8 (L (L za0 y) 7), .int .u8 (L (L za0 y) 8), .int .u8 (L (L za0 y) 9), .int .u8 (L (L za0 y) 10), .int .u8 (L (L za0 y) 11), .int .u8 (L (L za0 y) 12), .int .u8 (L (L za0 y) 13), .int .u8 (L (L za0 y) 14), .int .u8 (L (L za0 y) 15), .int .i64 d, .bool h])) = True := by subst hL; exact fun y d h => eq_true (zbi ⟨y, d, h⟩).1
 have hF : ∀ (y : Pr) (d : Int) (h : Bool), L zbt (.agg [.int .u8 (L (L za1 [L (L za0 y) 0, L (L za0 y) 1, L (L za0 y) 2, L (L za0 y) 3, L (L za0 y) 4, L (L za0 y) 5, L (L za0 y) 6, L (L za0 y) 7, L (L za0 y) 8, L (L za0 y) 9, L (L za0 y) 10, L (L za0 y) 11, L (L za0 y) 12, L (L za0 y) 13, L (L za0 y) 14, L (L za0 y) 15]) 0), .int .u8 (L (L za1 [L (L za0 y) 0, L (L za0 y) 1, L (L za0 y) 2, L (L za0 y) 3, L (L za0 y) 4, L (L za0 y) 5, L (L za0 y) 6, L (L za0 y) 7, L (L za0 y) 8, L (L za0 y) 9, L (L za0 y) 10, L (L za0 y) 11, L (L za0 y) 12, L (L za0 y) 13, L (L za0 y) 14, L (L za0 y) 15]) 1), .int .u8 (L (L za1 [L (L za0 y) 0, L (L za0 y) 1, L (L za0 y) 2, L (L za0 y) 3, L (L za0 y) 4, L (L za0 y) 5, L (L za0 y) 6, L (L za0 y) 7, L (L za0 y) 8, L (L za0 y) 9, L (L za0 y) 10, L (L za0 y) 11, L (L za0 y) 12, L (L za0 y) 13, L (L za0 y) 14, L (L za0 y) 15]) 2), .int .u8 (L (L za1 [L (L za0 y) 0, L (L za0 y) 1, L (L za0 y) 2, L (L za0 y) 3, L (L za0 y) 4, L (L za0 y) 5, L (L za0 y) 6, L (L za0 y) 7, L (L za0 y) 8, L (L za0 y) 9, L (L za0 y) 10, L (L za0 y) 11, L (L za0 y) 12, L (L za0 y) 13, L (L za0 y) 14, L (L za0 y) 15]) 3), .int .u8 (L (L za1 [L (L za0 y) 0, L (L za0 y) 1, L (L za0 y) 2, L (L za0 y) 3, L (L za0 y) 4, L (L za0 y) 5, L (L za0 y) 6, L (L za0 y) 7, L (L za0 y) 8, L (L za0 y) 9, L (L za0 y) 10, L (L za0 y) 11, L (L za0 y) 12, L (L za0 y) 13, L (L za0 y) 14, L (L za0 y) 15]) 4), .int .u8 (L (L za1 [L (L za0 y) 0, L (L za0 y) 1, L (L za0 y) 2, L (L za0 y) 3, L (L za0 y) 4, L (L za0 y) 5, L (L za0 y) 6, L (L za0 y) 7, L (L za0 y) 8, L (L za0 y) 9, L (L za0 y) 10, L (L za0 y) 11, L (L za0 y) 12, L (L za0 y) 13, L (L za0 y) 14, L (L za0 y) 15]) 5), .int .u8 (L (L za1 [L (L za0 y) 0, L (L za0 y) 1, L (L za0 y) 2, L (L za0 y) 3, L (L za0 y) 4, L (L za0 y) 5, L (L za0 y) 6, L (L za0 y) 7, L (L za0 y) 8, L (L za0 y) 9, L (L za0 y) 10, L (L za0 y) 11, L (L za0 y) 12, L (L za0 y) 13, L (L za0 y) 14, L (L za0 y) 15]) 6), .int .u8 (L (L za1 [L (L za0 y) 0, L (L za0 y) 1, L (L za0 y) 2, L (L za0 y) 3, L (L za0 y) 4, L (L za0 y) 5, L (L za0 y) 6, L (L za0 y) 7, L (L za0 y) 8, L (L za0 y) 9, L (L za0 y) 10, L (L za0 y) 11, L (L za0 y) 12, L (L za0 y) 13, L (L za0 y) 14, L (L za0 y) 15]) 7), .int .u8 (L (L za1 [L (L za0 y) 0, L (L za0 y) 1, L (L za0 y) 2, L (L za0 y) 3, L (L za0 y) 4, L (L za0 y) 5, L (L za0 y) 6, L (L za0 y) 7, L (L za0 y) 8, L (L za0 y) 9, L (L za0 y) 10, L (L za0 y) 11, L (L za0 y) 12, L (L za0 y) 13, L (L za0 y) 14, L (L za0 y) 15]) 8), .int .u8 (L (L za1 [L (L za0 y) 0, L (L za0 y) 1, L (L za0 y) 2, L (L za0 y) 3, L (L za0 y) 4, L (L za0 y) 5, L (L za0 y) 6, L (L za0 y) 7, L (L za0 y) 8, L (L za0 y) 9, L (L za0 y) 10, L (L za0 y) 11, L (L za0 y) 12, L (L za0 y) 13, L (L za0 y) 14, L (L za0 y) 15]) 9), .int .u8 (L (L za1 [L (L za0 y) 0, L (L za0 y) 1, L (L za0 y) 2, L (L za0 y) 3, L (L za0 y) 4, L (L za0 y) 5, L (L za0 y) 6, L (L za0 y) 7, L (L za0 y) 8, L (L za0 y) 9, L (L za0 y) 10, L (L za0 y) 11, L (L za0 y) 12, L (L za0 y) 13, L (L za0 y) 14, L (L za0 y) 15]) 10), .int .u8 (L (L za1 [L (L za0 y) 0, L (L za0 y) 1, L (L za0 y) 2, L (L za0 y) 3, L (L za0 y) 4, L (L za0 y) 5, L (L za0 y) 6, L (L za0 y) 7, L (L za0 y) 8, L (L za0 y) 9, L (L za0 y) 10, L (L za0 y) 11, L (L za0 y) 12, L (L za0 y) 13, L (L za0 y) 14, L (L za0 y) 15]) 11), .int .u8 (L (L za1 [L (L za0 y) 0, L (L za0 y) 1, L (L za0 y) 2, L (L za0 y) 3, L (L za0 y) 4, L (L za0 y) 5, L (L za0 y) 6, L (L za0 y) 7, L (L za0 y) 8, L (L za0 y) 9, L (L za0 y) 10, L (L za0 y) 11, L (L za0 y) 12, L (L za0 y) 13, L (L za0 y) 14, L (L za0 y) 15]) 12), .int .u8 (L (L za1 [L (L za0 y) 0, L (L za0 y) 1, L (L za0 y) 2, L (L za0 y) 3, L (L za0 y) 4, L (L za0 y) 5, L (L za0 y) 6, L (L za0 y) 7, L (L za0 y) 8, L (L za0 y) 9, L (L za0 y) 10, L (L za0 y) 11, L (L za0 y) 12, L (L za0 y) 13, L (L za0 y) 14, L (L za0 y) 15]) 13), .int .u8 (L (L za1 [L (L za0 y) 0, L (L za0 y) 1, L (L za0 y) 2, L (L za0 y) 3, L (L za0 y) 4, L (L za0 y) 5, L (L za0 y) 6, L (L za0 y) 7, L (L za0 y) 8, L (L za0 y) 9, L (L za0 y) 10, L (L za0 y) 11, L (L za0 y) 12, L (L za0 y) 13, L (L za0 y) 14, L (L za0 y) 15]) 14), .int .u8 (L (L za1 [L (L za0 y) 0, L (L za0 y) 1, L (L za0 y) 2, L (L za0 y) 3, L (L za0 y) 4, L (L za0 y) 5, L (L za0 y) 6, L (L za0 y) 7, L (L za0 y) 8, L (L za0 y) 9, L (L za0 y) 10, L (L za0 y) 11, L (L za0 y) 12, L (L za0 y) 13, L (L za0 y) 14, L (L za0 y) 15]) 15), .int .i64 d, .bool h]) = L (L (L Le.mk y) d) h := by subst hL; exact fun y d h => (zbi ⟨y, d, h⟩).2
 have hFo : ∀ (y : Pr) (d : Int) (h : Bool), (L zdc (.agg [.int .u8 (L (L za1 [L (L za0 y) 0, L (L za0 y) 1, L (L za0 y) 2, L (L za0 y) 3, L (L za0 y) 4, L (L za0 y) 5, L (L za0 y) 6, L (L za0 y) 7, L (L za0 y) 8, L (L za0 y) 9, L (L za0 y) 10, L (L za0 y) 11, L (L za0 y) 12, L (L za0 y) 13, L (L za0 y) 14, L (L za0 y) 15]) 0), .int .u8 (L (L za1 [L (L za0 y) 0, L (L za0 y) 1, L (L za0 y) 2, L (L za0 y) 3, L (L za0 y) 4, L (L za0 y) 5, L (L za0 y) 6, L (L za0 y) 7, L (L za0 y) 8, L (L za0 y) 9, L (L za0 y) 10, L (L za0 y) 11, L (L za0 y) 12, L (L za0 y) 13, L (L za0 y) 14, L (L za0 y) 15]) 1), .int .u8 (L (L za1 [L (L za0 y) 0, L (L za0 y) 1, L (L za0 y) 2, L (L za0 y) 3, L (L za0 y) 4, L (L za0 y) 5, L (L za0 y) 6, L (L za0 y) 7, L (L za0 y) 8, L (L za0 y) 9, L (L za0 y) 10, L (L za0 y) 11, L (L za0 y) 12, L (L za0 y) 13, L (L za0 y) 14, L (L za0 y) 15]) 2), .int .u8 (L (L za1 [L (L za0 y) 0, L (L za0 y) 1, L (L za0 y) 2, L (L za0 y) 3, L (L za0 y) 4, L (L za0 y) 5, L (L za0 y) 6, L (L za0 y) 7, L (L za0 y) 8, L (L za0 y) 9, L (L za0 y) 10, L (L za0 y) 11, L (L za0 y) 12, L (L za0 y) 13, L (L za0 y) 14, L (L za0 y) 15]) 3), .int .u8 (L (L za1 [L (L za0 y) 0, L (L za0 y) 1, L (L za0 y) 2, L (L za0 y) 3, L (L za0 y) 4, L (L za0 y) 5, L (L za0 y) 6, L (L za0 y) 7, L (L za0 y) 8, L (L za0 y) 9, L (L za0 y) 10, L (L za0 y) 11, L (L za0 y) 12, L (L za0 y) 13, L (L za0 y) 14, L (L za0 y) 15]) 4), .int .u8 (L (L za1 [L (L za0 y) 0, L (L za0 y) 1, L (L za0 y) 2, L (L za0 y) 3, L (L za0 y) 4, L (L za0 y) 5, L (L za0 y) 6, L (L za0 y) 7, L (L za0 y) 8, L (L za0 y) 9, L (L za0 y) 10, L (L za0 y) 11, L (L za0 y) 12, L (L za0 y) 13, L (L za0 y) 14, L (L za0 y) 15]) 5), .int .u8 (L (L za1 [L (L za0 y) 0, L (L za0 y) 1, L (L za0 y) 2, L (L za0 y) 3, L (L za0 y) 4, L (L za0 y) 5, L (L za0 y) 6, L (L za0 y) 7, L (L za0 y) 8, L (L za0 y) 9, L (L za0 y) 10, L (L za0 y) 11, L (L za0 y) 12, L (L za0 y) 13, L (L za0 y) 14, L (L za0 y) 15]) 6), .int .u8 (L (L za1 [L (L za0 y) 0, L (L za0 y) 1, L (L za0 y) 2, L (L za0 y) 3, L (L za0 y) 4, L (L za0 y) 5, L (L za0 y) 6, L (L za0 y) 7, L (L za0 y) 8, L (L za0 y) 9, L (L za0 y) 10, L (L za0 y) 11, L (L za0 y) 12, L (L za0 y) 13, L (L za0 y) 14, L (L za0 y) 15]) 7), .int .u8 (L (L za1 [L (L za0 y) 0, L (L za0 y) 1, L (L za0 y) 2, L (L za0 y) 3, L (L za0 y) 4, L (L za0 y) 5, L (L za0 y) 6, L (L za0 y) 7, L (L za0 y) 8, L (L za0 y) 9, L (L za0 y) 10, L (L za0 y) 11, L (L za0 y) 12, L (L za0 y) 13, L (L za0 y) 14, L (L za0 y) 15]) 8), .int .u8 (L (L za1 [L (L za0 y) 0, L (L za0 y) 1, L (L za0 y) 2, L (L za0 y) 3, L (L za0 y) 4, L (L za0 y) 5, L (L za0 y) 6, L (L za0 y) 7, L (L za0 y) 8, L (L za0 y) 9, L (L za0 y) 10, L (L za0 y) 11, L (L za0 y) 12, L (L za0 y) 13, L (L za0 y) 14, L (L za0 y) 15]) 9), .int .u8 (L (L za1 [L (L za0 y) 0, L (L za0 y) 1, L (L za0 y) 2, L (L za0 y) 3, L (L za0 y) 4, L (L za0 y) 5, L (L za0 y) 6, L (L za0 y) 7, L (L za0 y) 8, L (L za0 y) 9, L (L za0 y) 10, L (L za0 y) 11, L (L za0 y) 12, L (L za0 y) 13, L (L za0 y) 14, L (L za0 y) 15]) 10), .int .u8 (L (L za1 [L (L za0 y) 0, L (L za0 y) 1, L (L za0 y) 2, L (L za0 y) 3, L (L za0 y) 4, L (L za0 y) 5, L (L za0 y) 6, L (L za0 y) 7, L (L za0 y) 8, L (L za0 y) 9, L (L za0 y) 10, L (L za0 y) 11, L (L za0 y) 12, L (L za0 y) 13, L (L za0 y) 14, L (L za0 y) 15]) 11), .int .u8 (L (L za1 [L (L za0 y) 0, L (L za0 y) 1, L (L za0 y) 2, L (L za0 y) 3, L (L za0 y) 4, L (L za0 y) 5, L (L za0 y) 6, L (L za0 y) 7, L (L za0 y) 8, L (L za0 y) 9, L (L za0 y) 10, L (L za0 y) 11, L (L za0 y) 12, L (L za0 y) 13, L (L za0 y) 14, L (L za0 y) 15]) 12), .int .u8 (L (L za1 [L (L za0 y) 0, L (L za0 y) 1, L (L za0 y) 2, L (L za0 y) 3, L (L za0 y) 4, L (L za0 y) 5, L (L za0 y) 6, L (L za0 y) 7, L (L za0 y) 8, L (L za0 y) 9, L (L za0 y) 10, L (L za0 y) 11, L (L za0 y) 12, L (L za0 y) 13, L (L za0 y) 14, L (L za0 y) 15]) 13), .int .u8 (L (L za1 [L (L za0 y) 0, L (L za0 y) 1, L (L za0 y) 2, L (L za0 y) 3, L (L za0 y) 4, L (L za0 y) 5, L (L za0 y) 6, L (L za0 y) 7, L (L za0 y) 8, L (L za0 y) 9, L (L za0 y) 10, L (L za0 y) 11, L (L za0 y) 12, L (L za0 y) 13, L (L za0 y) 14, L (L za0 y) 15]) 14), .int .u8 (L (L za1 [L (L za0 y) 0, L (L za0 y) 1, L (L za0 y) 2, L (L za0 y) 3, L (L za0 y) 4, L (L za0 y) 5, L (L za0 y) 6, L (L za0 y) 7, L (L za0 y) 8, L (L za0 y) 9, L (L za0 y) 10, L (L za0 y) 11, L (L za0 y) 12, L (L za0 y) 13, L (L za0 y) 14, L (L za0 y) 15]) 15), .int .i64 d, .bool h])) = True := by subst hL; exact fun y d h => eq_true (zbi ⟨y, d, h⟩).1
 have hEta : ∀ y : Le, L (L (L Le.mk (L Le.p y)) (L Le.d y)) (L Le.h y) = y := by subst hL; exact fun y => rfl
 have hMp : ∀ (y : Pr) (d : Int) (h : Bool), L Le.p (L (L (L Le.mk y) d) h) = y := by subst hL; exact fun y d h => rfl
 have hQ0 : ∀ y : Pr, L zal (.agg [.int .u8 (L (L za0 y) 0), .int .u8 (L (L za0 y) 1), .int .u8 (L (L za0 y) 2), .int .u8 (L (L za0 y) 3), .int .u8 (L (L za0 y) 4), .int .u8 (L (L za0 y) 5), .int .u8 (L (L za0 y) 6), .int .u8 (L (L za0 y) 7), .int .u8 (L (L za0 y) 8), .int .u8 (L (L za0 y) 9), .int .u8 (L (L za0 y) 10), .int .u8 (L (L za0 y) 11), .int .u8 (L (L za0 y) 12), .int .u8 (L (L za0 y) 13), .int .u8 (L (L za0 y) 14), .int .u8 (L (L za0 y) 15)]) = y := by subst hL; exact fun y => (zbh y).2
 have hQo : ∀ y : Pr, (L zcl (.agg [.int .u8 (L (L za0 y) 0), .int .u8 (L (L za0 y) 1), .int .u8 (L (L za0 y) 2), .int .u8 (L (L za0 y) 3), .int .u8 (L (L za0 y) 4), .int .u8 (L (L za0 y) 5), .int .u8 (L (L za0 y) 6), .int .u8 (L (L za0 y) 7), .int .u8 (L (L za0 y) 8), .int .u8 (L (L za0 y) 9), .int .u8 (L (L za0 y) 10), .int .u8 (L (L za0 y) 11), .int .u8 (L (L za0 y) 12), .int .u8 (L (L za0 y) 13), .int .u8 (L (L za0 y) 14), .int .u8 (L (L za0 y) 15)])) = True := by subst hL; exact fun y => eq_true (zbh y).1
 have hQ1 : ∀ y : Pr, L zal (.agg [.int .u8 (L (L za1 [L (L za0 y) 0, L (L za0 y) 1, L (L za0 y) 2, L (L za0 y) 3, L (L za0 y) 4, L (L za0 y) 5, L (L za0 y) 6, L (L za0 y) 7, L (L za0 y) 8, L (L za0 y) 9, L (L za0 y) 10, L (L za0 y) 11, L (L za0 y) 12, L (L za0 y) 13, L (L za0 y) 14, L (L za0 y) 15]) 0), .int .u8 (L (L za1 [L (L za0 y) 0, L (L za0 y) 1, L (L za0 y) 2, L (L za0 y) 3, L (L za0 y) 4, L (L za0 y) 5, L (L za0 y) 6, L (L za0 y) 7, L (L za0 y) 8, L (L za0 y) 9, L (L za0 y) 10, L (L za0 y) 11, L (L za0 y) 12, L (L za0 y) 13, L (L za0 y) 14, L (L za0 y) 15]) 1), .int .u8 (L (L za1 [L (L za0 y) 0, L (L za0 y) 1, L (L za0 y) 2, L (L za0 y) 3, L (L za0 y) 4, L (L za0 y) 5, L (L za0 y) 6, L (L za0 y) 7, L (L za0 y) 8, L (L za0 y) 9, L (L za0 y) 10, L (L za0 y) 11, L (L za0 y) 12, L (L za0 y) 13, L (L za0 y) 14, L (L za0 y) 15]) 2), .int .u8 (L (L za1 [L (L za0 y) 0, L (L za0 y) 1, L (L za0 y) 2, L (L za0 y) 3, L (L za0 y) 4, L (L za0 y) 5, L (L za0 y) 6, L (L za0 y) 7, L (L za0 y) 8, L (L za0 y) 9, L (L za0 y) 10, L (L za0 y) 11, L (L za0 y) 12, L (L za0 y) 13, L (L za0 y) 14, L (L za0 y) 15]) 3), .int .u8 (L (L za1 [L (L za0 y) 0, L (L za0 y) 1, L (L za0 y) 2, L (L za0 y) 3, L (L za0 y) 4, L (L za0 y) 5, L (L za0 y) 6, L (L za0 y) 7, L (L za0 y) 8, L (L za0 y) 9, L (L za0 y) 10, L (L za0 y) 11, L (L za0 y) 12, L (L za0 y) 13, L (L za0 y) 14, L (L za0 y) 15]) 4), .int .u8 (L (L za1 [L (L za0 y) 0, L (L za0 y) 1, L (L za0 y) 2, L (L za0 y) 3, L (L za0 y) 4, L (L za0 y) 5, L (L za0 y) 6, L (L za0 y) 7, L (L za0 y) 8, L (L za0 y) 9, L (L za0 y) 10, L (L za0 y) 11, L (L za0 y) 12, L (L za0 y) 13, L (L za0 y) 14, L (L za0 y) 15]) 5), .int .u8 (L (L za1 [L (L za0 y) 0, L (L za0 y) 1, L (L za0 y) 2, L (L za0 y) 3, L (L za0 y) 4, L (L za0 y) 5, L (L za0 y) 6, L (L za0 y) 7, L (L za0 y) 8, L (L za0 y) 9, L (L za0 y) 10, L (L za0 y) 11, L (L za0 y) 12, L (L za0 y) 13, L (L za0 y) 14, L (L za0 y) 15]) 6), .int .u8 (L (L za1 [L (L za0 y) 0, L (L za0 y) 1, L (L za0 y) 2, L (L za0 y) 3, L (L za0 y) 4, L (L za0 y) 5, L (L za0 y) 6, L (L za0 y) 7, L (L za0 y) 8, L (L za0 y) 9, L (L za0 y) 10, L (L za0 y) 11, L (L za0 y) 12, L (L za0 y) 13, L (L za0 y) 14, L (L za0 y) 15]) 7), .int .u8 (L (L za1 [L (L za0 y) 0, L (L za0 y) 1, L (L za0 y) 2, L (L za0 y) 3, L (L za0 y) 4, L (L za0 y) 5, L (L za0 y) 6, L (L za0 y) 7, L (L za0 y) 8, L (L za0 y) 9, L (L za0 y) 10, L (L za0 y) 11, L (L za0 y) 12, L (L za0 y) 13, L (L za0 y) 14, L (L za0 y) 15]) 8), .int .u8 (L (L za1 [L (L za0 y) 0, L (L za0 y) 1, L (L za0 y) 2, L (L za0 y) 3, L (L za0 y) 4, L (L za0 y) 5, L (L za0 y) 6, L (L za0 y) 7, L (L za0 y) 8, L (L za0 y) 9, L (L za0 y) 10, L (L za0 y) 11, L (L za0 y) 12, L (L za0 y) 13, L (L za0 y) 14, L (L za0 y) 15]) 9), .int .u8 (L (L za1 [L (L za0 y) 0, L (L za0 y) 1, L (L za0 y) 2, L (L za0 y) 3, L (L za0 y) 4, L (L za0 y) 5, L (L za0 y) 6, L (L za0 y) 7, L (L za0 y) 8, L (L za0 y) 9, L (L za0 y) 10, L (L za0 y) 11, L (L za0 y) 12, L (L za0 y) 13, L (L za0 y) 14, L (L za0 y) 15]) 10), .int .u8 (L (L za1 [L (L za0 y) 0, L (L za0 y) 1, L (L za0 y) 2, L (L za0 y) 3, L (L za0 y) 4, L (L za0 y) 5, L (L za0 y) 6, L (L za0 y) 7, L (L za0 y) 8, L (L za0 y) 9, L (L za0 y) 10, L (L za0 y) 11, L (L za0 y) 12, L (L za0 y) 13, L (L za0 y) 14, L (L za0 y) 15]) 11), .int .u8 (L (L za1 [L (L za0 y) 0, L (L za0 y) 1, L (L za0 y) 2, L (L za0 y) 3, L (L za0 y) 4, L (L za0 y) 5, L (L za0 y) 6, L (L za0 y) 7, L (L za0 y) 8, L (L za0 y) 9, L (L za0 y) 10, L (L za0 y) 11, L (L za0 y) 12, L (L za0 y) 13, L (L za0 y) 14, L (L za0 y) 15]) 12), .int .u8 (L (L za1 [L (L za0 y) 0, L (L za0 y) 1, L (L za0 y) 2, L (L za0 y) 3, L (L za0 y) 4, L (L za0 y) 5, L (L za0 y) 6, L (L za0 y) 7, L (L za0 y) 8, L (L za0 y) 9, L (L za0 y) 10, L (L za0 y) 11, L (L za0 y) 12, L (L za0 y) 13, L (L za0 y) 14, L (L za0 y) 15]) 13), .int .u8 (L (L za1 [L (L za0 y) 0, L (L za0 y) 1, L (L za0 y) 2, L (L za0 y) 3, L (L za0 y) 4, L (L za0 y) 5, L (L za0 y) 6, L (L za0 y) 7, L (L za0 y) 8, L (L za0 y) 9, L (L za0 y) 10, L (L za0 y) 11, L (L za0 y) 12, L (L za0 y) 13, L (L za0 y) 14, L (L za0 y) 15]) 14), .int .u8 (L (L za1 [L (L za0 y) 0, L (L za0 y) 1, L (L za0 y) 2, L (L za0 y) 3, L (L za0 y) 4, L (L za0 y) 5, L (L za0 y) 6, L (L za0 y) 7, L (L za0 y) 8, L (L za0 y) 9, L (L za0 y) 10, L (L za0 y) 11, L (L za0 y) 12, L (L za0 y) 13, L (L za0 y) 14, L (L za0 y) 15]) 15)]) = y := by subst hL; exact fun y => (zbh y).2
 have hQ1o : ∀ y : Pr, (L zcl (.agg [.int .u8 (L (L za1 [L (L za0 y) 0, L (L za0 y) 1, L (L za0 y) 2, L (L za0 y) 3, L (L za0 y) 4, L (L za0 y) 5, L (L za0 y) 6, L (L za0 y) 7, L (L za0 y) 8, L (L za0 y) 9, L (L za0 y) 10, L (L za0 y) 11, L (L za0 y) 12, L (L za0 y) 13, L (L za0 y) 14, L (L za0 y) 15]) 0), .int .u8 (L (L za1 [L (L za0 y) 0, L (L za0 y) 1, L (L za0 y) 2, L (L za0 y) 3, L (L za0 y) 4, L (L za0 y) 5, L (L za0 y) 6, L (L za0 y) 7, L (L za0 y) 8, L (L za0 y) 9, L (L za0 y) 10, L (L za0 y) 11, L (L za0 y) 12, L (L za0 y) 13, L (L za0 y) 14, L (L za0 y) 15]) 1), .int .u8 (L (L za1 [L (L za0 y) 0, L (L za0 y) 1, L (L za0 y) 2, L (L za0 y) 3, L (L za0 y) 4, L (L za0 y) 5, L (L za0 y) 6, L (L za0 y) 7, L (L za0 y) 8, L (L za0 y) 9, L (L za0 y) 10, L (L za0 y) 11, L (L za0 y) 12, L (L za0 y) 13, L (L za0 y) 14, L (L za0 y) 15]) 2), .int .u8 (L (L za1 [L (L za0 y) 0, L (L za0 y) 1, L (L za0 y) 2, L (L za0 y) 3, L (L za0 y) 4, L (L za0 y) 5, L (L za0 y) 6, L (L za0 y) 7, L (L za0 y) 8, L (L za0 y) 9, L (L za0 y) 10, L (L za0 y) 11, L (L za0 y) 12, L (L za0 y) 13, L (L za0 y) 14, L (L za0 y) 15]) 3), .int .u8 (L (L za1 [L (L za0 y) 0, L (L za0 y) 1, L (L za0 y) 2, L (L za0 y) 3, L (L za0 y) 4, L (L za0 y) 5, L (L za0 y) 6, L (L za0 y) 7, L (L za0 y) 8, L (L za0 y) 9, L (L za0 y) 10, L (L za0 y) 11, L (L za0 y) 12, L (L za0 y) 13, L (L za0 y) 14, L (L za0 y) 15]) 4), .int .u8 (L (L za1 [L (L za0 y) 0, L (L za0 y) 1, L (L za0 y) 2, L (L za0 y) 3, L (L za0 y) 4, L (L za0 y) 5, L (L za0 y) 6, L (L za0 y) 7, L (L za0 y) 8, L (L za0 y) 9, L (L za0 y) 10, L (L za0 y) 11, L (L za0 y) 12, L (L za0 y) 13, L (L za0 y) 14, L (L za0 y) 15]) 5), .int .u8 (L (L za1 [L (L za0 y) 0, L (L za0 y) 1, L (L za0 y) 2, L (L za0 y) 3, L (L za0 y) 4, L (L za0 y) 5, L (L za0 y) 6, L (L za0 y) 7, L (L za0 y) 8, L (L za0 y) 9, L (L za0 y) 10, L (L za0 y) 11, L (L za0 y) 12, L (L za0 y) 13, L (L za0 y) 14, L (L za0 y) 15]) 6), .int .u8 (L (L za1 [L (L za0 y) 0, L (L za0 y) 1, L (L za0 y) 2, L (L za0 y) 3, L (L za0 y) 4, L (L za0 y) 5, L (L za0 y) 6, L (L za0 y) 7, L (L za0 y) 8, L (L za0 y) 9, L (L za0 y) 10, L (L za0 y) 11, L (L za0 y) 12, L (L za0 y) 13, L (L za0 y) 14, L (L za0 y) 15]) 7), .int .u8 (L (L za1 [L (L za0 y) 0, L (L za0 y) 1, L (L za0 y) 2, L (L za0 y) 3, L (L za0 y) 4, L (L za0 y) 5, L (L za0 y) 6, L (L za0 y) 7, L (L za0 y) 8, L (L za0 y) 9, L (L za0 y) 10, L (L za0 y) 11, L (L za0 y) 12, L (L za0 y) 13, L (L za0 y) 14, L (L za0 y) 15]) 8), .int .u8 (L (L za1 [L (L za0 y) 0, L (L za0 y) 1, L (L za0 y) 2, L (L za0 y) 3, L (L za0 y) 4, L (L za0 y) 5, L (L za0 y) 6, L (L za0 y) 7, L (L za0 y) 8, L (L za0 y) 9, L (L za0 y) 10, L (L za0 y) 11, L (L za0 y) 12, L (L za0 y) 13, L (L za0 y) 14, L (L za0 y) 15]) 9), .int .u8 (L (L za1 [L (L za0 y) 0, L (L za0 y) 1, L (L za0 y) 2, L (L za0 y) 3, L (L za0 y) 4, L (L za0 y) 5, L (L za0 y) 6, L (L za0 y) 7, L (L za0 y) 8, L (L za0 y) 9, L (L za0 y) 10, L (L za0 y) 11, L (L za0 y) 12, L (L za0 y) 13, L (L za0 y) 14, L (L za0 y) 15]) 10), .int .u8 (L (L za1 [L (L za0 y) 0, L (L za0 y) 1, L (L za0 y) 2, L (L za0 y) 3, L (L za0 y) 4, L (L za0 y) 5, L (L za0 y) 6, L (L za0 y) 7, L (L za0 y) 8, L (L za0 y) 9, L (L za0 y) 10, L (L za0 y) 11, L (L za0 y) 12, L (L za0 y) 13, L (L za0 y) 14, L (L za0 y) 15]) 11), .int .u8 (L (L za1 [L (L za0 y) 0, L (L za0 y) 1, L (L za0 y) 2, L (L za0 y) 3, L (L za0 y) 4, L (L za0 y) 5, L (L za0 y) 6, L (L za0 y) 7, L (L za0 y) 8, L (L za0 y) 9, L (L za0 y) 10, L (L za0 y) 11, L (L za0 y) 12, L (L za0 y) 13, L (L za0 y) 14, L (L za0 y) 15]) 12), .int .u8 (L (L za1 [L (L za0 y) 0, L (L za0 y) 1, L (L za0 y) 2, L (L za0 y) 3, L (L za0 y) 4, L (L za0 y) 5, L (L za0 y) 6, L (L za0 y) 7, L (L za0 y) 8, L (L za0 y) 9, L (L za0 y) 10, L (L za0 y) 11, L (L za0 y) 12, L (L za0 y) 13, L (L za0 y) 14, L (L za0 y) 15]) 13), .int .u8 (L (L za1 [L (L za0 y) 0, L (L za0 y) 1, L (L za0 y) 2, L (L za0 y) 3, L (L za0 y) 4, L (L za0 y) 5, L (L za0 y) 6, L (L za0 y) 7, L (L za0 y) 8, L (L za0 y) 9, L (L za0 y) 10, L (L za0 y) 11, L (L za0 y) 12, L (L za0 y) 13, L (L za0 y) 14, L (L za0 y) 15]) 14), .int .u8 (L (L za1 [L (L za0 y) 0, L (L za0 y) 1, L (L za0 y) 2, L (L za0 y) 3, L (L za0 y) 4, L (L za0 y) 5, L (L za0 y) 6, L (L za0 y) 7, L (L za0 y) 8, L (L za0 y) 9, L (L za0 y) 10, L (L za0 y) 11, L (L za0 y) 12, L (L za0 y) 13, L (L za0 y) 14, L (L za0 y) 15]) 15)])) = True := by subst hL; exact fun y => eq_true (zbh y).1
 have hG : ∀ y : List Le, L zaf (.lst 18 (L zf5 y) (fun i => leC L (L (L zao y) i))) = y := by subst hL; exact fun y => zh6 y
 have hGo : ∀ y : List Le, (L ze7 (.lst 18 (L zf5 y) (fun i => leC L (L (L zao y) i)))) = True := by subst hL; exact fun y => eq_true (zlg y)
 (cbv; try simp only [syT, true_and, and_true])
 simp only [hE, hEo, hF, hFo, hEta, hMp, hQ1, hQ1o, hQ0, hQo, hG, hGo, true_and]
 subst hL; subst hQ
 have hw : zf5 l = l.length := rfl
 have hz : l.length <= 1000000 := hz
 have hlb := zkl (prN e.p) l
 have w1 : zc6 .i64 (ze1 l e.p) 1 = ze1 l e.p + 1 := by
   unfold ze1 zc6
   rw [zdi]; omega
 have hdel : zbr e.p l = true -> yf7 l.length (ze1 l e.p) (zc6 .i64 (ze1 l e.p) 1) := fun h => by
   obtain ⟨h2, _⟩ := (zgn hok hpo.1).1 h
   exact ⟨hz, Int.natCast_nonneg _, Int.ofNat_lt.2 h2, w1⟩
 have hins1 : zbr e.p l = true -> yek (zfs l.length) (ze1 l e.p) := fun h => by
   obtain ⟨h2, _⟩ := (zgn hok hpo.1).1 h
   exact ⟨by unfold zfs; omega, Int.natCast_nonneg _, by unfold ze1 zfs; omega⟩
 have hins2 : yek l.length (ze1 l e.p) := ⟨hz, Int.natCast_nonneg _, by unfold ze1; omega⟩
 refine ⟨fun _ _ _ _ => trivial, hz, ⟨hz, hok, hpo.1⟩, fun hh => ⟨fun _ _ _ _ => trivial, hdel hh, fun hd => ⟨fun _ _ _ _ => trivial, fun _ _ _ _ => trivial, hins1 hh, yfn hok hpo hh (zzr hd)⟩, fun hd => ⟨fun hy => ⟨fun _ _ _ _ => trivial, fun _ _ _ _ => trivial, hins1 hh, yfn hok hpo hh (zzq hy)⟩, fun hy => yl7 hok hpo hh (ztu hd hy)⟩⟩, fun hh => ⟨fun hd => ⟨fun _ _ _ _ => trivial, fun _ _ _ _ => trivial, hins2, yfm hh (zzr hd)⟩, fun hd => ⟨fun hy => ⟨fun _ _ _ _ => trivial, fun _ _ _ _ => trivial, hins2, yfm hh (zzq hy)⟩, fun hy => yl6 hh (ztu hd hy)⟩⟩⟩
end Sy
end Go.Proofs.YtlphgephdhadhaaGreat
