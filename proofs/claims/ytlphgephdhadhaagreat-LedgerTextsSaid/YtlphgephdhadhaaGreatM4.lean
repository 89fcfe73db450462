/-Small facts on worlds, strings as lists of bytes, rows of bytes: used by every walk of this seat; no statement of the seat is proved here; and what stands between these and the texts behind.-/
import Derived.Test.YtlphgephdhadhaaGreatRows
import Derived.WalkKit
import Derived.WalkSpells
import Derived.WalkLawsBesides
import Derived.Deep.DeepCutAuto
import Derived.Deep.OwnRows
import Derived.Laws.IdiomStrings
import Derived.Lib.Hide
import Derived.Below
import Derived.ChangeSame
import Derived.ScopeJumps
import Derived.ProofKit
import Derived.OpenShut
import Derived.Carry
import Derived.Lib.SmallJoins
import Derived.RegionTactic
import Derived.BigRegion
import Derived.Test.YtlphgephdhadhaaGreatM3
import Derived.Lib.Bytealg
import Derived.ChangeArms
import Derived.ChangeSlices
import Derived.WideShapes
import Derived.Lib.Overlaps
import Derived.Lib.Builder
import Derived.Lib.BytesEntry
import Derived.Test.YtlphgephdhadhaaGreatShelf
namespace Go.Proofs.YtlphgephdhadhaaGreat
open Go.RowKit Go.WideShapes Go.ChangeShapes Go.ChangeAt
def zmu (b : UInt8) : Value := .int .u8 (b.toNat : Int)
def str (l : List UInt8) : Value := .string ⟨l.toArray⟩
theorem zie (n : Nat) : zmu (UInt8.ofNat n) = .int .u8 ((n : Int) % 256) := by
 have h : (((UInt8.ofNat n).toNat : Nat) : Int) = (n : Int) % 256 := by
   rw [UInt8.toNat_ofNat']; omega
 unfold zmu; rw [h]
@[go_sem] theorem ba_get (l : List UInt8) (k : Nat) (h : k < (⟨l.toArray⟩ : ByteArray).size) : (⟨l.toArray⟩ : ByteArray)[k] = l[k]'h := rfl
@[go_sem] theorem ba_append (a b : List UInt8) : (⟨a.toArray⟩ : ByteArray) ++ ⟨b.toArray⟩ = ⟨(a ++ b).toArray⟩ := by
 apply ByteArray.ext; simp
theorem zjg (l : List UInt8) (a b : Nat) : (⟨l.toArray⟩ : ByteArray).extract a b = ⟨((l.drop a).take (b - a)).toArray⟩ := by
 apply ByteArray.ext; simp [ByteArray.data_extract]
@[go_sem] theorem ba_extract_all (l : List UInt8) (a : Nat) : (⟨l.toArray⟩ : ByteArray).extract a l.length = ⟨(l.drop a).toArray⟩ := by
 rw [zjg, List.take_of_length_le (by simp)]
@[go_sem] theorem ba_extract_zero (l : List UInt8) (b : Nat) : (⟨l.toArray⟩ : ByteArray).extract 0 b = ⟨(l.take b).toArray⟩ := by
 rw [zjg, List.drop_zero, Nat.sub_zero]
@[go_sem] theorem wrap_byte_u64 (b : UInt8) : IntKind.u64.wrap (b.toNat : Int) = b.toNat := by
 have := b.toNat_lt; rw [IntKind.wrap_u64]; omega
@[go_sem] theorem wrap_byte_u32 (b : UInt8) : IntKind.u32.wrap (b.toNat : Int) = b.toNat := by
 have := b.toNat_lt; rw [IntKind.wrap_u32]; omega
@[go_sem] theorem wrap_byte_u16 (b : UInt8) : IntKind.u16.wrap (b.toNat : Int) = b.toNat := by
 have := b.toNat_lt; rw [IntKind.wrap_u16]; omega
@[go_sem] theorem wrap_byte_u8 (b : UInt8) : IntKind.u8.wrap (b.toNat : Int) = b.toNat := by
 have := b.toNat_lt; rw [IntKind.wrap_u8]; omega
@[go_sem] theorem wrap_byte_i64 (b : UInt8) : IntKind.i64.wrap (b.toNat : Int) = b.toNat := by
 have := b.toNat_lt; rw [IntKind.wrap_i64]; omega
theorem zjh (g j : Nat) : (⟨g, 0, none⟩ : Addr).add j = ⟨g, j, none⟩ := by
 unfold Addr.add
 split
 · rename_i h; rw [h]
 · rw [Nat.zero_add]
theorem yjl {P : Program} {w : World} {src dst e : TypeId} {g n cap : Nat} {f : Nat -> Value} (l : List UInt8) (hs : P.underlying src = some (.slice e)) (he : P.underlying e = some (.int .u8)) (hd : P.underlying dst = some .string)
   (hr : w.rowIs g e n f) (hl : l.length = n) (hf : ∀ i (hi : i < l.length), f i = zmu l[i]) :
   (convert src dst (.slice (some ⟨g, 0, none⟩) n cap)).run P w = .ok (.string ⟨l.toArray⟩) w := by
 subst hl
 refine run_convert_bytes_back w src dst e _ cap l hs he hd fun j hj => ?_
 have := hr.cell hj
 rw [hf j hj] at this
 rw [zjh]
 exact this
theorem ofNat_toNat (x : Nat) : ((UInt8.ofNat x).toNat : Int) = (x : Int) % 256 := by rw [UInt8.toNat_ofNat']; omega
def Row (w : World) (b : Nat) (t : TypeId) (n : Nat) (f : Nat -> Value) : Prop :=
 ∃ (c : Array Value) (lo hi : Nat), w.heap[b]? = some (.cells c t (lo, hi)) /\ n <= c.size /\ (hi = 0 \/ n <= lo) /\ ∀ i, i < n -> c[i]? = some (f i)
section
variable {w w' : World} {b : Nat} {t : TypeId} {n : Nat} {f g : Nat -> Value}
theorem Row.cell (h : Row w b t n f) {i : Nat} (hi : i < n) : w.cell? ⟨b, i, none⟩ = some (f i) := by
 obtain ⟨c, lo, hi', hb, _, _, hc⟩ := h
 simp [World.cell?, hb, hc i hi]
theorem Row.frozen (h : Row w b t n f) {i : Nat} (hi : i < n) : w.frozen? ⟨b, i, none⟩ = false := by
 obtain ⟨c, lo, hi', hb, _, hf, _⟩ := h
 simp only [World.frozen?, hb]
 rcases hf with hf | hf
 · subst hf; simp
 · simp; omega
theorem Row.lt (h : Row w b t n f) : b < w.heap.size := by
 obtain ⟨c, lo, hi, hb, _⟩ := h
 exact (Array.getElem?_eq_some_iff.1 hb).1
theorem Row.congr (h : Row w b t n f) (e : ∀ i, i < n -> f i = g i) : Row w b t n g := by
 obtain ⟨c, lo, hi, hb, hn, hf, hc⟩ := h
 exact ⟨c, lo, hi, hb, hn, hf, fun i hi => by rw [hc i hi, e i hi]⟩
theorem Row.of_block (h : Row w b t n f) (e : w'.heap[b]? = w.heap[b]?) : Row w' b t n f := by
 obtain ⟨c, lo, hi, hb, hn, hf, hc⟩ := h
 exact ⟨c, lo, hi, e.trans hb, hn, hf, hc⟩
theorem Row.set (h : Row w b t n f) (i : Nat) (v : Value) : Row (w.setCell ⟨b, i, none⟩ v) b t n (fun j => if j = i then v else f j) := by
 obtain ⟨c, lo, hi', hb, hn, hf, hc⟩ := h
 refine ⟨c.setIfInBounds i v, lo, hi', ?_, by simpa using hn, hf, fun j hj => ?_⟩
 · simp [World.setCell, Array.getElem?_modify, hb]
 · rw [Array.getElem?_setIfInBounds]
   by_cases e : i = j
   · subst e
     have : i < c.size := by omega
     simp [this]
   · rw [if_neg e, hc j hj]
     show _ = some (if j = i then v else f j)
     rw [if_neg (fun (h : j = i) => e h.symm)]
theorem Row.alloc (h : Row w b t n f) (o : Obj) : Row (w.alloc o) b t n f := h.of_block (Below.heap_alloc _ _ _ h.lt)
theorem Row.bytes (w : World) (t : TypeId) (l : List UInt8) (cap : Nat) : Row (w.alloc (.cells (bytesRow ⟨l.toArray⟩ cap) t ((bytesRow ⟨l.toArray⟩ cap).size, (bytesRow ⟨l.toArray⟩ cap).size + 1))) w.heap.size t l.length (fun j => zmu (l.getD j 0)) := by
 refine ⟨bytesRow ⟨l.toArray⟩ cap, _, _, heap_alloc_new _ _, by simp [bytesRow], .inr (by simp [bytesRow]), fun i hi => ?_⟩
 rw [bytesRow_at _ _ _ (by simpa using hi)]
 simp [zmu, hi]
end
def Blk (w : World) (g : Nat) (t : TypeId) (cs : Array Value) : Prop := w.heap[g]? = some (.cells cs t (0, 0))
section
variable {w w' : World} {g : Nat} {t : TypeId} {cs : Array Value}
theorem Blk.lt (h : Blk w g t cs) : g < w.heap.size := by
 rcases Nat.lt_or_ge g w.heap.size with hlt | hge
 · exact hlt
 · unfold Blk at h; rw [Array.getElem?_eq_none hge] at h; cases h
theorem Blk.cell (h : Blk w g t cs) (i : Nat) : w.cell? ⟨g, i, none⟩ = cs[i]? := cell_of_row w g i cs t (0, 0) h
theorem Blk.frozen (h : Blk w g t cs) (i : Nat) : w.frozen? ⟨g, i, none⟩ = false := by
 unfold Blk at h
 simp [World.frozen?, h]
theorem Blk.new (w : World) (t : TypeId) (cs : Array Value) : Blk (w.alloc (.cells cs t)) w.heap.size t cs := heap_alloc_new w _
theorem Blk.drew (h : Blk w g t cs) : Blk w.drew g t cs := h
theorem Blk.alloc (h : Blk w g t cs) (o : Obj) : Blk (w.alloc o) g t cs := (Below.heap_alloc w o g h.lt).trans h
theorem Blk.grown {row : Option Nat} (h : Blk w g t cs) (hb : w.grownBy w' row) (hg : some g ≠ row) : Blk w' g t cs := (hb.block g h.lt hg).trans h
end
theorem zmt {base : Nat} {e : TypeId} {size n : Nat} {v : Value} {xs : List Value} {w w' : World} (hown : w.ownsRow base e size v n xs) (hb : base <= w.heap.size) (hg : w.grownBy w' v.ownBlock) : Below base w w' :=
 (Below.refl _ _).grown hg hb fun k hk => (hown.lt k hk).1
theorem zlb {P : Program} {ops : Array Oper} {rest : List Oper} {o : Oper} {a : Act} {Q : Exit -> Act -> World -> Prop} (wr : World) (hgd : o.guard = none) (s x : Operand) (t : TypeId)
   (ho : o.op = .call { callee := .builtin .append, args := #[s, x], argTypes := #[t, t] })
   (base : Nat) (e : TypeId) (z : Value) (bytes : Nat) (ht : P.underlying t = some (.slice e)) (hinfo : (P.info? e).map (fun i => (i.zero, i.size, i.bytes)) = some (some z, 1, bytes)) (hz1 : z.cells.size = 1)
   (v : Value) (n : Nat) (xs : List Value) (hs : a.eval s = v) (hown : wr.ownsRow base e 1 v n xs)
   (c : Value) (h1 : c.oneCell' = true) (hx : a.eval x = .slice (some ⟨wr.heap.size, 0, none⟩) 1 1)
   (hbytes : (n + 1) * bytes <= 140737488355328) (hn : n < 9223372036854775807) (hbase : base <= wr.heap.size)
   (h : ∀ v' w', w'.ownsRow base e 1 v' (n + 1) (xs ++ [c]) -> Below base wr w' -> wpList P ops Q rest (a.put o.dst v') w') : wpList P ops Q (o :: rest) a (wr.alloc (.cells #[c] e)) := by
 obtain ⟨i, hi, hzz⟩ := Option.map_eq_some_iff.1 hinfo
 simp only [Prod.mk.injEq] at hzz
 obtain ⟨hz, hsz, hby⟩ := hzz
 have hown' := hown.alloc (.cells #[c] e)
 refine wpList_append_own _ hgd s x t ho base e i z 1 bytes ht hi hz hsz hby hz1 (by decide) v n xs hs hown' ⟨wr.heap.size, 0, none⟩ 1 1 [c] hx rfl ?_ ?_ ?_ hbytes ?_ ?_
 · intro j u hj
   match j, hj with
   | 0, hj =>
     simp at hj; subst hj
     rw [zjh, cell_of_row _ _ _ _ _ _ (heap_alloc_new wr _)]; rfl
 · intro u hu
   simp at hu; subst hu; exact h1
 · unfold maxLen; omega
 · simp; omega
 · intro v' w' ho' hg _
   exact h v' w' ho' (((Below.refl _ _).alloc hbase _).trans (zmt hown' (by simp; omega) hg))
theorem zyx {P : Program} {src dst e : TypeId} (hs : P.underlying src = some (.slice e)) (he : P.underlying e = some (.int .u8)) (hd : P.underlying dst = some .string) {w : World} {base n : Nat} {v : Value} (l : List UInt8)
   (h : w.ownsRow base e 1 v n (l.map zmu)) : (convert src dst v).run P w = .ok (.string ⟨l.toArray⟩) w := by
 rcases h.2 with ⟨rfl, rfl⟩ | ⟨g, cap, cur, rfl, _, hh, hnc, _, hsz, hx⟩
 · have hl : l = [] := by have := h.1; simpa using this
   subst hl
   rw [run_convert_bytes_string w src dst e none 0 0 hs he hd]
   simp [Conv.bytesToString]; rfl
 · have hl : l.length = n := by have := h.1; simpa using this
   subst hl
   refine run_convert_bytes_back w src dst e _ cap l hs he hd fun j hj => ?_
   have := h.cells (g := g) rfl j (zmu l[j]) (by simp [hj])
   exact this
theorem yba {a b : List UInt8} (h : a = b) : Ending.returned (.string ⟨a.toArray⟩) = .returned (.string ⟨b.toArray⟩) := by rw [h]
theorem zhy {P : Program} {a : Act} {w : World} {Q : Exit -> Act -> World -> Prop} {c rest : Code} (l : Nat) (J : Act -> World -> Prop) (μ : Act -> World -> Nat) (hf : findLabel c l = some (.seq .skip rest))
   (pass : ∀ a w, J a w -> rest.wp P (Exit.jump l (fun a' w' => J a' w' /\ μ a' w' < μ a w) Q) a w)
   (first : Hid (∀ a w, J a w -> rest.wp P (Exit.jump l J Q) a w) -> c.wp P (Exit.jump l J Q) a w) : (Code.scope c).wp P Q a w := by
 refine wp_scope_jumps l J μ hf (first fun a w hJ => Code.wp_mono (fun e a' w' hq => ?_) (pass a w hJ)) fun a w hJ => wp_seq (wp_skip (pass a w hJ))
 cases e <;> first | exact hq | exact ⟨hq.1, hq.2.1⟩
section
variable {l : Nat} {J : Act -> World -> Prop} {Q : Exit -> Act -> World -> Prop} {a : Act} {w : World}
@[go_sem] theorem jump_normal : Exit.jump l J Q .normal a w = Q .normal a w := rfl
@[go_sem] theorem jump_exit (id : Nat) : Exit.jump l J Q (.exit id) a w = Q (.exit id) a w := rfl
@[go_sem] theorem jump_ret : Exit.jump l J Q .ret a w = Q .ret a w := rfl
@[go_sem] theorem jump_panic (ch : List PanicEntry) : Exit.jump l J Q (.panic ch) a w = Q (.panic ch) a w := rfl
end
section
variable {H : Type} {enc : TypeId × Value -> H} {P : Program}
theorem zot {f : Func} {s : ChangeSpec} {apart fresh handsOn again : Bool} {W W' : World} {args : Array Value} {v : Value} {ds gs : List (DataW H)} {before pa pv : List MemPlace}
   (hW : DataW.Whole enc P f.params.toList s.vars apart W args.toList ds gs before)
   (hres : ∀ (b : Nat) (sp : Nat -> Bool) (hd : Bool), DataW.TrodAll enc P W' b sp hd f.resultTypes.toList (v.resultList f.resultTypes.size) (s.fn H (ds ++ gs)).results [])
   (hargs : ∀ sp : Nat -> Bool, (∀ p ∈ before, sp p.block = true) -> DataW.TrodAll enc P W' 0 sp true f.params.toList args.toList (s.fn H (ds ++ gs)).args pa)
   (hvars : ∀ sp : Nat -> Bool, (∀ p ∈ before, sp p.block = true) -> DataW.TrodVars enc P W' sp s.vars (s.fn H (ds ++ gs)).vars pv)
   (hps : before = pa ++ pv) (hb : Below W.heap.size W W')
   (hok : ∀ (j : Nat) (t : TypeId) (r : Value), f.resultTypes[j]? = some t -> (v.resultList f.resultTypes.size)[j]? = some r -> Value.okWide P W' .any 0 t r) :
   s.post enc P f apart fresh handsOn again W args v W' := by
 have hlt : ∀ p ∈ before, p.block < W.heap.size := fun p hp => hW.lt p hp
 have hold : ∀ p ∈ before, (fun b => decide (b < W.heap.size)) p.block = true := fun p hp => by simpa using hlt p hp
 refine ⟨ds, gs, before, [], pa, pv, hW, hres _ _ _, hargs _ hold, hvars _ hold, World.keptBut_mono (fun p hp => ⟨hp, ?_⟩) (hb.frame (· ∈ before)), fun _ => ?_⟩
 · rw [hps, List.mem_append] at hp
   exact Or.inr hp
 · obtain ⟨_, _, _, _, _, hz, hn⟩ := hW
   refine ⟨hok, _, _, ([] ++ pa) ++ pv, ⟨[] ++ pa, pv, trodAll_append (hargs _ (fun _ _ => rfl)) (hres _ _ _), hvars _ (fun _ _ => rfl), rfl, ?_, ?_⟩, ?_⟩
   · intro b off hp
     have hin : MemPlace.cell b off ∈ before := by rw [hps]; simpa using hp
     rw [hb.frozen (hlt _ hin)]
     exact hz b off hin
   · intro ha
     have := hn ha
     rw [hps] at this
     simpa using this
   · intro p hp _
     rw [hps]
     simpa using hp
theorem zik (hl : laidOutB P = true) {W W' : World} (hb : Below W.heap.size W W') {sp : Nat -> Bool} :
   ∀ {ts : List TypeId} {vs : List Value} {ds : List (DataW H)} {ps : List MemPlace}, (∀ t ∈ ts, P.readableRec t = true /\ t < P.types.size) ->
   DataW.TrodAll enc P W 0 (fun _ => true) true ts vs ds ps -> (∀ x ∈ ps, x.block < W.heap.size) -> (∀ x ∈ ps, sp x.block = true) -> DataW.TrodAll enc P W' 0 sp true ts vs ds ps
 | [], [], [], _, _, h, _, _ => h
 | _ :: _, _ :: _, _ :: _, _, hr, ⟨p, q, h1, h2, e⟩, hlt, hs =>
   ⟨p, q, WideElems.Trod_stays hl (hr _ (List.mem_cons.2 (Or.inl rfl))).1 (hr _ (List.mem_cons.2 (Or.inl rfl))).2 h1
       (fun x hx => hb.same (hlt x (by rw [e]; exact List.mem_append_left _ hx))) (fun x hx => hs x (by rw [e]; exact List.mem_append_left _ hx)),
     zik hl hb (fun t ht => hr t (List.mem_cons.2 (Or.inr ht))) h2 (fun x hx => hlt x (by rw [e]; exact List.mem_append_right _ hx)) (fun x hx => hs x (by rw [e]; exact List.mem_append_right _ hx)), e⟩
theorem post_law {f : Func} {s : ChangeSpec} {apart fresh handsOn again : Bool} {W W' : World} {args : Array Value} {ds : List (DataW H)} {before : List MemPlace} {tb : TypeId}
   (hl : laidOutB P = true) (hr : (f.params.toList.all fun t => P.readableRec t && decide (t < P.types.size)) = true) (hbt : f.resultTypes = #[tb]) (hub : P.underlying tb = some .bool) (hsv : s.vars = [])
   (hW : DataW.Whole enc P f.params.toList s.vars apart W args.toList ds [] before)
   (hfn : s.fn H (ds ++ []) = { results := [.lit (.bool true)], args := ds }) (hb : Below W.heap.size W W') :
   s.post enc P f apart fresh handsOn again W args (.bool true) W' := by
 have hlt : ∀ p ∈ before, p.block < W.heap.size := fun p hp => hW.lt p hp
 obtain ⟨p, q, hA, hV, hpq, _, _⟩ := id hW
 rw [hsv] at hV
 have hq : q = [] := hV
 subst hq
 rw [List.append_nil] at hpq
 subst hpq
 refine zot (pa := before) (pv := []) hW ?_ ?_ ?_ (by simp) hb ?_
 · intro _ _ _
   rw [hfn, hbt]
   exact trodAll_mk1 (shut_bool hub true)
 · intro sp hsp
   rw [hfn]
   exact zik hl hb (fun t ht => by simpa using List.all_eq_true.1 hr t ht) hA hlt hsp
 · intro sp _
   rw [hfn, hsv]
   rfl
 · exact ok_one hbt rfl (okWide_bool_mk hub true)
end
end Go.Proofs.YtlphgephdhadhaaGreat
namespace Go.Proofs.YtlphgephdhadhaaGreat
open Go.RowKit
theorem i5 : (Tryz.prog.info? 5).map (fun i => (i.zero, i.size, i.bytes)) = some (some (.int .u8 0), 1, 1) := by kernel_rfl
def cl8 (k : Int) : Nat := (min (max k 0) 8).toNat
def ybp (n : Nat) : Nat -> List UInt8
 | 0 => []
 | i+1 => UInt8.ofNat (n / 256^i) :: ybp n i
theorem ytf (k : Int) : cl8 k <= 8 := by unfold cl8; omega
theorem zlp (n c : Nat) : (ybp n c).length = c := by induction c <;> simp_all [ybp]
theorem yhc (n c t : Nat) (h : t < (ybp n c).length) : (ybp n c)[t] = UInt8.ofNat (n / 256 ^ (c - 1 - t)) := by
 induction c generalizing t with
 | zero => simp [ybp] at h
 | succ c ih =>
   rcases t with _ | t
   · simp [ybp]
   · simp only [ybp, List.getElem_cons_succ]
     rw [ih]
     congr 3; omega
set_option maxRecDepth 100000 in
set_option maxHeartbeats 400000 in
theorem ymo (n : Nat) (k : Int) (w : World) (_hn : n < 18446744073709551616) :
   Calls Tryz.prog 79 #[.int .u64 n, .int .i64 k] w fun e w' => e = .returned (.string ⟨(ybp n (cl8 k)).toArray⟩) /\ Below w.heap.size w w' := by
 have h8 := ytf k
 have hmk := fun W => run_make_row' (P := Tryz.prog) 79 5 (.int .u8 0) 1 Tryz.underlying79 i5 rfl .i64 .i64 (cl8 k) (by omega) (by omega) W
 go_enter Tryz.func79, Tryz.ntmps79
 go_upto_region 1 with (fail)
 go_cut [1] (fun v wx => v = .int .i64 (cl8 k) /\ w = wx)
 case first =>
   go_wp2
   all_goals (go_meet; exact ⟨by unfold cl8; go_num, rfl⟩)
 case rest =>
   obtain ⟨rfl, rfl⟩ := hcut
   generalize hc : cl8 k = c at *
   have Hc := Lib.hid hc
   clear hc
   go_wp2
   go_loopw [0, 6] (fun m i wr => ∃ j x : Nat, j <= c /\ i = .int .i64 ((j : Int) - 1) /\ m = .int .u64 (x : Int) /\ Hid (x = n / 256 ^ (c - j)) /\
      wr.rowIs w.heap.size 5 c (fun t => if t < j then .int .u8 0 else zmu (UInt8.ofNat (n / 256 ^ (c - 1 - t)))) /\ Below w.heap.size w wr) (fun _ i _ => (intOf i + 1).toNat)
   case atStart =>
     refine ⟨c, n, by omega, by simp, by simp, Lib.hid (by simp), ?_, ?_⟩
     · exact (World.rowIs_made w (.int .u8 0) c 5).congr (fun i hi => by simp [hi])
     · exact (Below.refl _ _).alloc (Nat.le_refl _) _
   case round =>
     obtain ⟨j, x, hj, rfl, rfl, hx, hrow, hb⟩ := hrel
     rcases j with _ | j
     · have hconv := fun cc => yjl (P := Tryz.prog) (src := 79) (dst := 9) (cap := cc) (ybp n c) Tryz.underlying79 Tryz.underlying5 Tryz.underlying9 hrow (zlp n c) (fun i hi => by simp [yhc])
       go_wp2
       go_ret
       exact ⟨yba (by rw [Hc.out]), hb⟩
     · have hc := hrow.cell (i := j) (by omega)
       have hf := hrow.frozen j
       have hs := hrow.set j (.int .u8 ((x : Int) % 256))
       have hB := hb.setCell (p := ⟨w.heap.size, j, none⟩) (Nat.le_refl _) (.int .u8 ((x : Int) % 256))
       have h0 : ((j + 1 : Nat) : Int) - 1 = j := by omega
       rw [h0]
       simp only [Nat.lt_succ_self, if_true] at hc
       clear hrow hb h0
       go_wp2
       go_roundw
       case rel =>
         refine ⟨j, x / 256, by omega, rfl, rfl, Lib.hid ?_, hs.congr fun t ht => ?_, hB⟩
         · rw [hx.out, Nat.div_div_eq_div_mul, <- Nat.pow_succ]; congr 2; omega
         · by_cases h1 : t = j
           · subst h1; rw [if_pos rfl, if_neg (by omega), zie, hx.out, show c - (t + 1) = c - 1 - t by omega]
           · rw [if_neg h1]
             by_cases h2 : t < j
             · rw [if_pos h2, if_pos (by omega)]
             · rw [if_neg h2, if_neg (by omega)]
       case measure => simp [intOf] <;> omega
def zzh (l : List UInt8) : Nat := l.foldl (fun n b => n * 256 + b.toNat) 0
theorem zrj (l : List UInt8) (b : UInt8) : zzh (l ++ [b]) = zzh l * 256 + b.toNat := by simp [zzh]
theorem zmf (l : List UInt8) (k : Nat) (h : k < l.length) : zzh (l.take (k + 1)) = zzh (l.take k) * 256 + l[k].toNat := by
 rw [List.take_succ_eq_append_getElem h, zrj]
theorem yoh (l : List UInt8) : zzh l < 256 ^ l.length := by
 rw [<- List.reverse_reverse l]
 induction l.reverse with
 | nil => simp [zzh]
 | cons b l ih =>
   rw [List.reverse_cons, zrj, List.length_append, List.length_singleton, Nat.pow_succ]
   have := b.toNat_lt
   omega
theorem yj2 (l : List UInt8) (k : Nat) (h : k < l.length) (h8 : l.length <= 8) : zzh (l.take k) < 72057594037927936 := by
 have h1 := yoh (l.take k)
 have h2 : (l.take k).length <= 7 := by rw [List.length_take]; omega
 have h3 : 256 ^ (l.take k).length <= 256 ^ 7 := Nat.pow_le_pow_right (by omega) h2
 omega
theorem ymw (x : Nat) (b : UInt8) (h : x < 72057594037927936) : bits .or .u64 ((x : Int) * 256) (b.toNat : Int) = ((x * 256 + b.toNat : Nat) : Int) := by
 have hb := b.toNat_lt
 have := u64_or_nat (x * 256) b.toNat (by omega) (by omega)
 rw [nat_join 8 (x * 256) b.toNat (by omega) (by omega)] at this
 rw [<- this]; congr 1
set_option maxRecDepth 100000 in
set_option maxHeartbeats 400000 in
theorem yog (l : List UInt8) (w : World) (h1 : 1 <= l.length) (h8 : l.length <= 8) :
   Calls Tryz.prog 114 #[.string ⟨l.toArray⟩] w fun e w' => e = .returned (.tuple #[.int .u64 (zzh l), .int .i64 0]) /\ w = w' := by
 have hne : (l == []) = false := by cases l <;> simp_all
 have hne' : l ≠ [] := by intro h; simp [h] at h1
 go_enter Tryz.func114, Tryz.ntmps114
 go_wp2
 refine zhy 0 (fun a' w' => w = w' /\ ∃ (k x : Nat), Hid (x = zzh (l.take k)) /\ k < l.length /\ x < 72057594037927936 /\ ∃ u1 u2 u3 u6 u7 u8 u9 u10 u11 u12 u13 u14 u15 u16 u17 u18 u19 u20 u21 u22 u23 u24 : Value, a' = ⟨#[.string ⟨l.toArray⟩, u1, u2, u3, .int .u64 (x : Int), .int .i64 (k : Int), u6, u7, u8, u9, u10, u11, u12, u13, u14, u15, u16, u17, u18, u19, u20, u21, u22, u23, u24], []⟩) (fun a' _ => l.length - (intOf (a'.tmps.getD 5 undef)).toNat) rfl ?_ ?_
 · rintro a' w' ⟨rfl, k, x, hx, hk, hx7, u1, u2, u3, u6, u7, u8, u9, u10, u11, u12, u13, u14, u15, u16, u17, u18, u19, u20, u21, u22, u23, u24, rfl⟩
   have hor := ymw x l[k] hx7
   go_wp2
   · go_step3
     exact ⟨rfl, ⟨rfl, k + 1, x * 256 + l[k].toNat, Lib.hid (by rw [zmf l k hk, hx.out]), by omega, by have := yj2 l (k + 1) (by omega) h8; rw [zmf l k hk, <- hx.out] at this; exact this, _, _, _, _, _, _, _, _, _, _, _, _, _, _, _, _, _, _, _, _, _, _, by go_num⟩, by simp [intOf] <;> omega⟩
   · go_ret2
     refine ⟨?_, rfl⟩
     have : zzh l = x * 256 + l[k].toNat := by rw [hx.out, <- zmf l k hk, List.take_of_length_le (by omega)]
     rw [this]; rfl
 · intro hP
   go_wp2
   go_step3
   simp only [Exit.then]
   apply_assumption
   exact hP.out _ _ ⟨rfl, 0, 0, Lib.hid rfl, by omega, by omega, _, _, _, _, _, _, _, _, _, _, _, _, _, _, _, _, _, _, _, _, _, _, rfl⟩
def zdc (n : Nat) : List UInt8 := if n < 128 then [UInt8.ofNat n] else UInt8.ofNat (n % 128 + 128) :: zdc (n / 128)
termination_by n
decreasing_by omega
theorem zbc {n : Nat} (h : n < 128) : zdc n = [UInt8.ofNat n] := by rw [zdc, if_pos h]
theorem zdb {n : Nat} (h : 128 <= n) : zdc n = UInt8.ofNat (n % 128 + 128) :: zdc (n / 128) := by rw [zdc, if_neg (by omega)]
theorem yvq (x : Nat) : bits .or .u8 ((x : Int) % 256) 128 = (x : Int) % 128 + 128 := by
 have h := u8_or_nat (x % 256) 128 (by omega) (by omega)
 have h2 : x % 256 ||| 128 = x % 128 + 128 := by
   have e1 : x % 256 = x % 128 + x / 128 % 2 * 128 := by omega
   have h3 : x / 128 % 2 = 0 \/ x / 128 % 2 = 1 := by omega
   have j1 : ∀ y, y < 128 -> 128 ||| y = 128 + y := fun y hy => nat_join 7 128 y (by decide) hy
   have e2 : ∀ y, y < 128 -> (y + 128) ||| 128 = y + 128 := fun y hy => by
     rw [Nat.add_comm y 128, <- j1 y hy, Nat.or_comm 128 y, Nat.or_assoc, Nat.or_self]
   rcases h3 with h3 | h3
   · rw [e1, h3, Nat.or_comm]; simp only [Nat.zero_mul, Nat.add_zero]; rw [j1 _ (by omega)]; omega
   · rw [e1, h3, Nat.one_mul, e2 _ (by omega)]
 rw [h2] at h
 have e : (((x % 256 : Nat) : Int)) = (x : Int) % 256 := by omega
 rw [e] at h
 rw [show ((128 : Nat) : Int) = 128 from rfl] at h
 rw [h]; omega
set_option maxRecDepth 100000 in
set_option maxHeartbeats 400000 in
theorem ya8 (n : Nat) (w : World) (hn : n < 18446744073709551616) :
   Calls Tryz.prog 70 #[.int .u64 n] w fun e w' => e = .returned (.string ⟨(zdc n).toArray⟩) /\ Below w.heap.size w w' := by
 go_enter Tryz.func70, Tryz.ntmps70
 go_wp2
 refine zhy 0 (fun a' w' => Below w.heap.size w w' /\ ∃ (x k : Nat) (v : Value) (pre : List UInt8), Hid (pre ++ zdc x = zdc n) /\ x < 18446744073709551616 /\ k <= 10 /\ Hid (x * 128 ^ k <= n) /\ w'.ownsRow w.heap.size 5 1 v k (pre.map zmu) /\ ∃ u1 u2 u4 u5 u6 u7 u8 u9 u10 u11 u12 u13 u14 u15 u16 u17 u18 u19 : Value, a' = ⟨#[.int .u64 (x : Int), u1, u2, v, u4, u5, u6, u7, u8, u9, u10, u11, u12, u13, u14, u15, u16, u17, u18, u19], []⟩) (fun a' _ => (intOf (a'.tmps.getD 0 undef)).toNat) rfl ?_ ?_
 · rintro a' wr ⟨hb, x, k, v, pre, hpre, hx, hk, hxk, hown, u1, u2, u4, u5, u6, u7, u8, u9, u10, u11, u12, u13, u14, u15, u16, u17, u18, u19, rfl⟩
   have hor := yvq x
   have hsz := hb.size
   by_cases hlt : x < 128
   · have hx8 : ∀ w1 : World, ∀ v1, w1.ownsRow w.heap.size 5 1 v1 (k + 1) (List.map zmu pre ++ [Value.int .u8 (x : Int)]) -> (convert 79 9 v1).run Tryz.prog w1 = .ok (.string ⟨(pre ++ [UInt8.ofNat x]).toArray⟩) w1 := fun w1 v1 h =>
       zyx (P := Tryz.prog) (src := 79) (dst := 9) (e := 5) Tryz.underlying79 Tryz.underlying5 Tryz.underlying9 (pre ++ [UInt8.ofNat x]) (by
         have e : (Value.int .u8 (x : Int)) = zmu (UInt8.ofNat x) := by rw [zie]; go_num
         rw [List.map_append, List.map_singleton, <- e]; exact h)
     have Hx8 := Lib.hid hx8
     clear hx8
     go_wp2_with (at_builtin; refine zlb _ rfl _ _ 79 rfl w.heap.size 5 (.int .u8 0) 1 Tryz.underlying79 i5 rfl _ _ _ rfl hown _ rfl rfl (by omega) (by omega) hsz ?_; intro v1 w1 hown1 hb1; have hcv := Hx8.out w1 v1 hown1; clear hown1 hown hor)
     go_ret
     exact ⟨yba (by rw [<- hpre.out, zbc hlt]), hb.trans (by assumption)⟩
   · go_wp2_with (at_builtin; refine zlb _ rfl _ _ 79 rfl w.heap.size 5 (.int .u8 0) 1 Tryz.underlying79 i5 rfl _ _ _ rfl hown _ rfl rfl (by omega) (by omega) hsz ?_; intro v1 w1 hown1 hb1)
     go_step3
     have h128 : 128 * 128 ^ k <= n := Nat.le_trans (Nat.mul_le_mul_right _ (by omega)) hxk.out
     have hk9 : k + 1 <= 10 := by
       refine Decidable.byContradiction fun h => ?_
       have : 128 ^ 10 <= 128 ^ k := Nat.pow_le_pow_right (by decide) (by omega)
       have h3 : (128 : Nat) ^ 10 = 1180591620717411303424 := by decide
       omega
     exact ⟨rfl, ⟨hb.trans hb1, x / 128, k + 1, v1, pre ++ [UInt8.ofNat (x % 128 + 128)], Lib.hid (by rw [List.append_assoc, <- hpre.out, zdb (n := x) (by omega)]; rfl), by omega, hk9, Lib.hid (by
       rw [Nat.pow_succ]; have h4 : x / 128 * (128 ^ k * 128) <= x * 128 ^ k := by
         rw [Nat.mul_comm (128 ^ k) 128, <- Nat.mul_assoc]; exact Nat.mul_le_mul_right _ (by omega)
       exact Nat.le_trans h4 hxk.out), by
       rw [List.map_append, List.map_singleton, zie]; rw [show (((x % 128 + 128 : Nat) : Int) % 256) = (x : Int) % 128 + 128 by omega]; exact hown1, _, _, _, _, _, _, _, _, _, _, _, _, _, _, _, _, _, _, rfl⟩, by simp [intOf]; omega⟩
 · intro hP
   go_wp2
   go_step3
   simp only [Exit.then]
   apply_assumption
   exact hP.out _ _ ⟨Below.refl _ _, n, 0, _, [], Lib.hid rfl, hn, by omega, Lib.hid (by simp), World.ownsRow_nil _ _ _ _, _, _, _, _, _, _, _, _, _, _, _, _, _, _, _, _, _, _, rfl⟩
end Go.Proofs.YtlphgephdhadhaaGreat
namespace Go.Proofs.YtlphgephdhadhaaGreat
open Go.RowKit
def yfm (w : World) (g : Nat) (ps : List (List UInt8)) : Prop := ∀ j (h : j < ps.length), w.cell? ⟨g, j, none⟩ = some (.string ⟨ps[j].toArray⟩)
def zzi (ps : List (List UInt8)) : List UInt8 := ps.flatten
end Go.Proofs.YtlphgephdhadhaaGreat
namespace Go.Proofs.YtlphgephdhadhaaGreat
namespace Sy
open Go Go.RowKit
set_option maxRecDepth 100000
def ybo (e n : Int) : List UInt8 := ybp e.toNat (cl8 n)
def getZ (l : List UInt8) : Int := zzh l
def yhb (e n : Int) : Prop := 0 <= e /\ e < 18446744073709551616 /\ -9223372036854775808 <= n /\ n <= 9223372036854775807
def yj1 (l : List UInt8) : Prop := 1 <= l.length /\ l.length <= 8
def upto (n : Nat) (l : List UInt8) : Prop := l.length <= n
def zy5 (L : zaa) : zcl := (79, fun xs => match xs with | [.int .u64 e, .int .i64 n] => some (L2 L yhb e n, .str (L2 L ybo e n)) | _ => none)
def yod (L : zaa) : zcl := (114, fun xs => match xs with | [.str l] => some (L yj1 l, .tup [.int .u64 (L getZ l), .int .i64 0]) | _ => none)
theorem yqr {x y : AV} {v u : Value} (hx : ∀ h D, R h D zaz x v) (hy : ∀ h D, R h D zaz y u) : ∀ h D, R h D zaz (.tup [x, y]) (.tuple #[v, u]) := by
 intro h D
 refine .tup _ _ rfl ?_
 intro i z t hz ht
 match i with
 | 0 => simp at hz ht; subst hz ht; exact hx h D
 | 1 => simp at hz ht; subst hz ht; exact hy h D
 | i + 2 => simp at hz
theorem ysn (k : IntKind) (n : Int) : ∀ h D, R h D zaz (.int k n) (.int k n) := fun _ _ => .int k n
theorem yci {e : Int} (h : 0 <= e) : ∃ n : Nat, e = n := ⟨e.toNat, by omega⟩
theorem zkv : zcs Tryz.prog (zy5 std) := by
 intro xs p r h hp
 dsimp only [zy5] at h |-
 split at h <;> cases h
 rename_i e n
 obtain ⟨h0, h1, h2, h3⟩ : yhb e n := hp
 obtain ⟨k, rfl⟩ := yci h0
 exact zf6 (fn := Tryz.f79) rfl rfl (by kernel_rfl) (ytu (zil _ _) (zil _ _)) (fun h D => ya1 h D _ _) (fun w => ymo k n w (by omega))
theorem yj0 : zcs Tryz.prog (yod std) := by
 intro xs p r h hp
 dsimp only [yod] at h |-
 split at h <;> cases h
 rename_i l
 obtain ⟨h1, h8⟩ : yj1 l := hp
 exact zf6 (fn := Tryz.f114) rfl rfl (by kernel_rfl) (ypr (zlf _)) (yqr (ysn _ _) (ysn _ _)) (zq2 fun w => yog l w h1 h8)
end Sy
end Go.Proofs.YtlphgephdhadhaaGreat
namespace Go.Proofs.YtlphgephdhadhaaGreat
namespace Sy
open Go Go.RowKit
set_option maxRecDepth 100000
set_option linter.unusedSimpArgs false
set_option linter.unusedVariables false
abbrev Pr := { l : List Int // l.length = 16 }
structure Le where
 p : Pr
 d : Int
 h : Bool
 deriving DecidableEq
def zi0 (p : Pr) : Prop := ∀ x ∈ p.1, 0 <= x /\ x < 256
def zqn (a : Nat) (p : List Int) : Nat := p.foldl (fun a x => 256 * a + x.toNat) a
def zmb (p : List Int) : Nat := zqn 0 p
theorem zjs : ∀ (p : List Int) (a : Nat), zqn a p = a * 256 ^ p.length + zmb p
 | [], a => by simp [zqn, zmb]
 | x :: p, a => by
   have h1 := zjs p (256 * a + x.toNat)
   have h2 := zjs p (256 * 0 + x.toNat)
   have e1 : zqn a (x :: p) = zqn (256 * a + x.toNat) p := rfl
   have e2 : zmb (x :: p) = zqn (256 * 0 + x.toNat) p := rfl
   rw [e1, e2, h1, h2, List.length_cons, Nat.pow_succ, Nat.add_mul, Nat.add_mul, Nat.mul_comm 256 a, Nat.mul_assoc, Nat.mul_comm (256 ^ p.length) 256]
   simp only [Nat.mul_zero, Nat.zero_mul]
   omega
theorem zey (x : Int) (p : List Int) : zmb (x :: p) = x.toNat * 256 ^ p.length + zmb p := by
 have e2 : zmb (x :: p) = zqn (256 * 0 + x.toNat) p := rfl
 rw [e2, zjs, Nat.mul_zero, Nat.zero_add]
theorem zia : ∀ {p : List Int}, (∀ x ∈ p, 0 <= x /\ x < 256) -> zmb p < 256 ^ p.length
 | [], _ => by simp [zmb, zqn]
 | x :: p, h => by
   have ih := zia (p := p) (fun y hy => h y (List.mem_cons_of_mem _ hy))
   have hx := h x (by simp)
   rw [zey, List.length_cons, Nat.pow_succ, Nat.mul_comm (256 ^ p.length)]
   have h1 : (x.toNat + 1) * 256 ^ p.length <= 256 * 256 ^ p.length := Nat.mul_le_mul_right _ (by omega)
   rw [Nat.add_mul, Nat.one_mul] at h1
   omega
theorem zwk : ∀ {p q : List Int}, p.length = q.length -> (∀ x ∈ p, 0 <= x /\ x < 256) -> (∀ x ∈ q, 0 <= x /\ x < 256) -> zmb p = zmb q -> p = q
 | [], [], _, _, _, _ => rfl
 | x :: p, y :: q, hl, hp, hq, h => by
   have hl : p.length = q.length := by simpa using hl
   have h1 := zia (p := p) (fun y hy => hp y (List.mem_cons_of_mem _ hy))
   have h2 := zia (p := q) (fun y hy => hq y (List.mem_cons_of_mem _ hy))
   have hx := hp x (by simp)
   have hy := hq y (by simp)
   rw [zey, zey, <- hl] at h
   rw [<- hl] at h2
   have e : x.toNat = y.toNat := by
     rcases Nat.lt_trichotomy x.toNat y.toNat with h3 | h3 | h3
     · have h4 : (x.toNat + 1) * 256 ^ p.length <= y.toNat * 256 ^ p.length := Nat.mul_le_mul_right _ (by omega)
       rw [Nat.add_mul, Nat.one_mul] at h4
       omega
     · exact h3
     · have h4 : (y.toNat + 1) * 256 ^ p.length <= x.toNat * 256 ^ p.length := Nat.mul_le_mul_right _ (by omega)
       rw [Nat.add_mul, Nat.one_mul] at h4
       omega
   have e' : x = y := by omega
   rw [e] at h
   rw [e', zwk hl (fun y hy => hp y (List.mem_cons_of_mem _ hy)) (fun y hy => hq y (List.mem_cons_of_mem _ hy)) (by omega)]
def prN (p : Pr) : Nat := zmb p.1
theorem ybw {p q : Pr} (hp : zi0 p) (hq : zi0 q) (h : prN p = prN q) : p = q := Subtype.ext (zwk (by rw [p.2, q.2]) hp hq h)
def prB (p : List Int) : List UInt8 := p.map fun x => UInt8.ofNat x.toNat
theorem yg4 {x y : Int} (hx : 0 <= x /\ x < 256) (hy : 0 <= y /\ y < 256) : (UInt8.ofNat x.toNat < UInt8.ofNat y.toNat) = (x < y) := by
 rw [UInt8.lt_iff_toNat_lt, UInt8.toNat_ofNat', UInt8.toNat_ofNat', Nat.mod_eq_of_lt (by omega), Nat.mod_eq_of_lt (by omega)]
 exact propext ⟨fun h => by omega, fun h => by omega⟩
theorem yeh : ∀ {p q : List Int}, p.length = q.length -> (∀ x ∈ p, 0 <= x /\ x < 256) -> (∀ x ∈ q, 0 <= x /\ x < 256) ->
   Lib.compareBytes (prB p) (prB q) = if zmb p < zmb q then -1 else if zmb q < zmb p then 1 else 0
 | [], [], _, _, _ => rfl
 | x :: p, y :: q, hl, hp, hq => by
   have hl : p.length = q.length := by simpa using hl
   have h1 := zia (p := p) (fun y hy => hp y (List.mem_cons_of_mem _ hy))
   have h2 := zia (p := q) (fun y hy => hq y (List.mem_cons_of_mem _ hy))
   have ih := yeh hl (fun y hy => hp y (List.mem_cons_of_mem _ hy)) (fun y hy => hq y (List.mem_cons_of_mem _ hy))
   have hx := hp x (by simp)
   have hy := hq y (by simp)
   rw [zey, zey, <- hl]
   rw [<- hl] at h2
   show (if UInt8.ofNat x.toNat < UInt8.ofNat y.toNat then (-1 : Int) else if UInt8.ofNat y.toNat < UInt8.ofNat x.toNat then 1 else Lib.compareBytes (prB p) (prB q)) = _
   simp only [yg4 hx hy, yg4 hy hx]
   rcases Int.lt_trichotomy x y with h3 | h3 | h3
   · have h4 : (x.toNat + 1) * 256 ^ p.length <= y.toNat * 256 ^ p.length := Nat.mul_le_mul_right _ (by omega)
     rw [Nat.add_mul, Nat.one_mul] at h4
     rw [if_pos h3, if_pos (by omega)]
   · subst h3
     rw [if_neg (by omega), if_neg (by omega), ih]
     by_cases h5 : zmb p < zmb q
     · rw [if_pos h5, if_pos (by omega)]
     · rw [if_neg h5, if_neg (c := x.toNat * 256 ^ p.length + zmb p < x.toNat * 256 ^ p.length + zmb q) (by omega)]
       by_cases h6 : zmb q < zmb p
       · rw [if_pos h6, if_pos (by omega)]
       · rw [if_neg h6, if_neg (by omega)]
   · have h4 : (y.toNat + 1) * 256 ^ p.length <= x.toNat * 256 ^ p.length := Nat.mul_le_mul_right _ (by omega)
     rw [Nat.add_mul, Nat.one_mul] at h4
     rw [if_neg (by omega), if_pos h3, if_neg (by omega), if_pos (by omega)]
theorem zw9 : ∀ {p q : List Int}, p.length = q.length -> (∀ x ∈ p, 0 <= x /\ x < 256) -> (∀ x ∈ q, 0 <= x /\ x < 256) ->
   Op.bytesLess (prB p) (prB q) = decide (zmb p < zmb q)
 | [], [], _, _, _ => rfl
 | x :: p, y :: q, hl, hp, hq => by
   have hl : p.length = q.length := by simpa using hl
   have h1 := zia (p := p) (fun y hy => hp y (List.mem_cons_of_mem _ hy))
   have h2 := zia (p := q) (fun y hy => hq y (List.mem_cons_of_mem _ hy))
   have ih := zw9 hl (fun y hy => hp y (List.mem_cons_of_mem _ hy)) (fun y hy => hq y (List.mem_cons_of_mem _ hy))
   have hx := hp x (by simp)
   have hy := hq y (by simp)
   rw [zey, zey, <- hl]
   rw [<- hl] at h2
   show (decide (UInt8.ofNat x.toNat < UInt8.ofNat y.toNat) || (UInt8.ofNat x.toNat == UInt8.ofNat y.toNat && Op.bytesLess (prB p) (prB q))) = _
   simp only [yg4 hx hy, ih]
   rcases Int.lt_trichotomy x y with h3 | h3 | h3
   · have h4 : (x.toNat + 1) * 256 ^ p.length <= y.toNat * 256 ^ p.length := Nat.mul_le_mul_right _ (by omega)
     rw [Nat.add_mul, Nat.one_mul] at h4
     rw [decide_eq_true h3, Bool.true_or, decide_eq_true (by omega)]
   · subst h3
     rw [decide_eq_false (by omega)]
     simp
   · have h4 : (y.toNat + 1) * 256 ^ p.length <= x.toNat * 256 ^ p.length := Nat.mul_le_mul_right _ (by omega)
     rw [Nat.add_mul, Nat.one_mul] at h4
     have hne : (UInt8.ofNat x.toNat == UInt8.ofNat y.toNat) = false := by
       rw [beq_eq_false_iff_ne]
       intro e
       have := yg4 hy hx
       rw [<- e] at this
       have h7 : ¬ (UInt8.ofNat x.toNat < UInt8.ofNat x.toNat) := UInt8.lt_irrefl _
       rw [this] at h7
       exact h7 h3
     rw [decide_eq_false (by omega), hne, Bool.false_and, Bool.false_or, decide_eq_false (by omega)]
def kLe (e : Le) : Nat := prN e.p
def zig (e : Le) : Prop := zi0 e.p /\ 0 <= e.d /\ e.d <= 255
structure zef (l : List Le) : Prop where
 ris : l.Pairwise fun a b => kLe a < kLe b
 ok : ∀ e ∈ l, zig e
def zdr (k : Nat) : List Le -> Nat
 | [] => 0
 | e :: l => if kLe e < k then zdr k l + 1 else 0
theorem zm5 (k : Nat) : ∀ l, zdr k l <= l.length
 | [] => Nat.le_refl _
 | e :: l => by
   have := zm5 k l
   unfold zdr
   split <;> simp <;> omega
theorem zjx {k : Nat} : ∀ {l : List Le} {i : Nat} (hi : i < l.length), i < zdr k l -> kLe l[i] < k
 | e :: l, 0, _, h => by
   unfold zdr at h
   split at h
   · assumption
   · omega
 | e :: l, i + 1, hi, h => by
   unfold zdr at h
   split at h
   · exact zjx (l := l) (by simpa using hi) (by omega)
   · omega
theorem zpc {k : Nat} : ∀ {l : List Le}, l.Pairwise (fun a b => kLe a < kLe b) -> ∀ {i : Nat} (hi : i < l.length), zdr k l <= i -> k <= kLe l[i]
 | e :: l, hr, 0, _, h => by
   unfold zdr at h
   split at h
   · omega
   · simpa using Nat.not_lt.1 (by assumption)
 | e :: l, hr, i + 1, hi, h => by
   have hr := List.pairwise_cons.1 hr
   unfold zdr at h
   split at h
   · exact zpc hr.2 (i := i) (by simpa using hi) (by omega)
   · have hi' : i < l.length := by simpa using hi
     have := hr.1 l[i] (List.getElem_mem hi')
     simp only [List.getElem_cons_succ]
     omega
theorem ynw {a b : Le} (ha : zig a) (hb : zig b) (h : kLe a = kLe b) : a.p = b.p := ybw ha.1 hb.1 h
def zcf (p : Pr) (l : List Le) : Bool := l.any fun e => decide (e.p = p)
theorem zj4 {l : List Le} {p : Pr} (hl : zef l) (hp : zi0 p) : zcf p l = true ↔ ∃ h : zdr (prN p) l < l.length, l[zdr (prN p) l].p = p := by
 unfold zcf
 rw [List.any_eq_true]
 constructor
 · rintro ⟨e, he, h⟩
   have h : e.p = p := of_decide_eq_true h
   obtain ⟨i, hi, rfl⟩ := List.getElem_of_mem he
   have hk : kLe l[i] = prN p := by rw [kLe, h]
   have h1 : ¬ i < zdr (prN p) l := fun h2 => by have := zjx hi h2; omega
   have h2 : zdr (prN p) l < l.length := by omega
   have h3 := zpc hl.ris h2 (Nat.le_refl _)
   by_cases h4 : zdr (prN p) l = i
   · refine ⟨h2, ?_⟩
     simp only [h4]; exact h
   · have := List.pairwise_iff_getElem.1 hl.ris (zdr (prN p) l) i h2 hi (by omega)
     omega
 · rintro ⟨h, e⟩
   exact ⟨_, List.getElem_mem h, decide_eq_true e⟩
theorem yw5 {l : List Le} {p : Pr} (hl : zef l) (hp : zi0 p) (h : zdr (prN p) l < l.length) : (kLe l[zdr (prN p) l] = prN p) ↔ zcf p l = true := by
 rw [zj4 hl hp]
 constructor
 · intro e
   exact ⟨h, ybw (hl.ok _ (List.getElem_mem h)).1 hp e⟩
 · rintro ⟨_, e⟩
   rw [kLe, e]
def zcy (l : List Le) (p : Pr) : Le := match l.find? (fun e => decide (e.p = p)) with
 | some e => e
 | none => ⟨p, 0, false⟩
def zfm (i : Nat) (l : List Le) : List Le := l.take i ++ l.drop (i + 1)
def yd8 (i : Nat) (e : Le) (l : List Le) : List Le := l.take i ++ e :: l.drop i
def zcj (e : Le) : Bool := decide (0 < e.d) || e.h
def zgm (e : Le) (l : List Le) : List Le := if zcf e.p l = true then zfm (zdr (kLe e) l) l else l
def zca (l : List Le) (e : Le) : List Le := if zcj e = true then yd8 (zdr (kLe e) l) e (zgm e l) else zgm e l
theorem yol {l : List Le} {p : Pr} (hl : zef l) (hp : zi0 p) (h : zcf p l = true) : ∃ hi : zdr (prN p) l < l.length, zcy l p = l[zdr (prN p) l] := by
 obtain ⟨hi, e⟩ := (zj4 hl hp).1 h
 refine ⟨hi, ?_⟩
 unfold zcy
 have : l.find? (fun e => decide (e.p = p)) = some l[zdr (prN p) l] := by
   rw [List.find?_eq_some_iff_getElem]
   refine ⟨decide_eq_true e, _, hi, rfl, fun j hj => ?_⟩
   have h1 := zjx (l := l) (i := j) (by omega) hj
   simp only [Bool.not_eq_eq_eq_not, Bool.not_true, decide_eq_false_iff_not]
   intro h2
   rw [kLe, h2] at h1
   omega
 rw [this]
theorem yok {l : List Le} {p : Pr} (h : zcf p l = false) : zcy l p = ⟨p, 0, false⟩ := by
 unfold zcy
 have : l.find? (fun e => decide (e.p = p)) = none := by
   rw [List.find?_eq_none]
   intro e he h2
   unfold zcf at h
   rw [List.any_eq_false] at h
   exact h e he h2
 rw [this]
theorem ynm (l : List Le) (p : Pr) : (zcy l p).p = p := by
 unfold zcy
 split
 · rename_i e h
   have := List.find?_some h
   exact of_decide_eq_true this
 · rfl
theorem zl3 {l : List Le} {p : Pr} (hl : zef l) (hp : zi0 p) : zig (zcy l p) := by
 unfold zcy
 split
 · rename_i e h
   exact hl.ok _ (List.mem_of_find?_eq_some h)
 · exact ⟨hp, Int.le_refl _, by show (0 : Int) <= 255; decide⟩
theorem zr7 {i : Nat} {l : List Le} {e : Le} (h : e ∈ zfm i l) : e ∈ l := by
 unfold zfm at h
 rcases List.mem_append.1 h with h | h
 · exact List.mem_of_mem_take h
 · exact List.mem_of_mem_drop h
theorem zpd {i : Nat} {l : List Le} (hl : zef l) : zef (zfm i l) := by
 refine ⟨?_, fun e he => hl.ok e (zr7 he)⟩
 refine hl.ris.sublist ?_
 unfold zfm
 conv => rhs; rw [<- List.take_append_drop i l]
 exact List.Sublist.append (List.Sublist.refl _) (List.drop_sublist_drop_left l (Nat.le_succ i))
theorem zfx {i : Nat} {l : List Le} (h : i < l.length) : (zfm i l).length + 1 = l.length := by
 unfold zfm; simp; omega
theorem yig {e : Le} {l : List Le} (hl : zef l) : zef (zgm e l) := by
 unfold zgm
 split
 · exact zpd hl
 · exact hl
theorem zlu {e : Le} {l : List Le} (hl : zef l) (he : zig e) : (∀ x ∈ (zgm e l).take (zdr (kLe e) l), kLe x < kLe e) /\ (∀ x ∈ (zgm e l).drop (zdr (kLe e) l), kLe e < kLe x) /\ zdr (kLe e) l <= (zgm e l).length := by
 have hlb := zm5 (kLe e) l
 unfold zgm
 by_cases h : zcf e.p l = true
 · rw [if_pos h]
   obtain ⟨hi, h2⟩ := (zj4 hl he.1).1 h
   have hi : zdr (kLe e) l < l.length := hi
   have h2 : l[zdr (kLe e) l].p = e.p := h2
   unfold zfm
   refine ⟨?_, ?_, by simp; omega⟩
   · intro x hx
     rw [List.take_append_of_le_length (by simp; omega), List.take_take, Nat.min_self] at hx
     obtain ⟨j, hj, rfl⟩ := List.mem_take_iff_getElem.1 hx
     exact zjx (by omega) (by omega)
   · intro x hx
     rw [List.drop_append_of_le_length (by simp; omega), List.drop_eq_nil_of_le (by simp; omega), List.nil_append] at hx
     obtain ⟨j, hj, rfl⟩ := List.mem_drop_iff_getElem.1 hx
     have := List.pairwise_iff_getElem.1 hl.ris (zdr (kLe e) l) (zdr (kLe e) l + 1 + j) hi (by omega) (by omega)
     have h3 : kLe l[zdr (kLe e) l] = kLe e := by rw [kLe, h2]; rfl
     omega
 · rw [if_neg h]
   refine ⟨?_, ?_, hlb⟩
   · intro x hx
     obtain ⟨j, hj, rfl⟩ := List.mem_take_iff_getElem.1 hx
     exact zjx (by omega) (by omega)
   · intro x hx
     obtain ⟨j, hj, rfl⟩ := List.mem_drop_iff_getElem.1 hx
     have h3 := zpc hl.ris (k := kLe e) (i := zdr (kLe e) l + j) (by omega) (by omega)
     rcases Nat.lt_or_eq_of_le h3 with h4 | h4
     · exact h4
     · exfalso
       apply h
       unfold zcf
       rw [List.any_eq_true]
       exact ⟨_, List.getElem_mem _, decide_eq_true (ynw (hl.ok _ (List.getElem_mem _)) he h4.symm)⟩
theorem zpb {l : List Le} {e : Le} (hl : zef l) (he : zig e) : zef (zca l e) := by
 obtain ⟨h1, h2, h3⟩ := zlu hl he
 have ho := yig (e := e) hl
 unfold zca
 by_cases hk : zcj e = true
 · rw [if_pos hk]
   unfold yd8
   refine ⟨?_, ?_⟩
   · rw [List.pairwise_append]
     refine ⟨ho.ris.sublist (List.take_sublist _ _), ?_, ?_⟩
     · rw [List.pairwise_cons]
       exact ⟨fun x hx => h2 x hx, ho.ris.sublist (List.drop_sublist _ _)⟩
     · intro a ha b hb
       rcases List.mem_cons.1 hb with rfl | hb
       · exact h1 a ha
       · exact Nat.lt_trans (h1 a ha) (h2 b hb)
   · intro x hx
     rcases List.mem_append.1 hx with hx | hx
     · exact ho.ok x (List.mem_of_mem_take hx)
     · rcases List.mem_cons.1 hx with rfl | hx
       · exact he
       · exact ho.ok x (List.mem_of_mem_drop hx)
 · rw [if_neg hk]; exact ho
theorem yd6 {e : Le} {l : List Le} (hl : zef l) (he : zig e) : (zgm e l).length + (if zcf e.p l = true then 1 else 0) = l.length := by
 unfold zgm
 by_cases h : zcf e.p l = true
 · obtain ⟨hi, _⟩ := (zj4 hl he.1).1 h
   rw [if_pos h, if_pos h]; exact zfx hi
 · rw [if_neg h, if_neg h]; rfl
theorem zl2 {i : Nat} {e : Le} {l : List Le} (h : i <= l.length) : (yd8 i e l).length = l.length + 1 := by
 unfold yd8; simp; omega
theorem yd5 {l : List Le} {e : Le} (hl : zef l) (he : zig e) : (zca l e).length <= l.length + (if zcf e.p l = true then 0 else 1) /\ (zcj e = false -> (zca l e).length <= l.length) := by
 have h1 := yd6 hl he
 have h3 := (zlu hl he).2.2
 unfold zca
 by_cases hk : zcj e = true
 · rw [if_pos hk, zl2 h3]
   refine ⟨?_, fun h => by rw [hk] at h; cases h⟩
   by_cases h : zcf e.p l = true
   · rw [if_pos h] at h1 |-; omega
   · rw [if_neg h] at h1 |-; omega
 · rw [if_neg hk]
   refine ⟨by omega, fun _ => by omega⟩
theorem yry {l : List Le} (hl : zef l) {a b : Le} (ha : a ∈ l) (hb : b ∈ l) (h : a.p = b.p) : a = b := by
 obtain ⟨i, hi, rfl⟩ := List.getElem_of_mem ha
 obtain ⟨j, hj, rfl⟩ := List.getElem_of_mem hb
 have hk : kLe l[i] = kLe l[j] := by rw [kLe, h]; rfl
 rcases Nat.lt_trichotomy i j with h1 | h1 | h1
 · have := List.pairwise_iff_getElem.1 hl.ris i j hi hj h1; omega
 · subst h1; rfl
 · have := List.pairwise_iff_getElem.1 hl.ris j i hj hi h1; omega
theorem yof {l : List Le} (hl : zef l) {e : Le} (he : e ∈ l) : zcy l e.p = e := by
 unfold zcy
 cases h : l.find? (fun x => decide (x.p = e.p)) with
 | some x => exact yry hl (List.mem_of_find?_eq_some h) he (of_decide_eq_true (by simpa using List.find?_some h))
 | none =>
   rw [List.find?_eq_none] at h
   exact absurd (decide_eq_true rfl) (h e he)
theorem yob {l : List Le} {p : Pr} : zcf p l = true ↔ ∃ e ∈ l, e.p = p := by
 unfold zcf
 rw [List.any_eq_true]
 exact ⟨fun ⟨e, h1, h2⟩ => ⟨e, h1, of_decide_eq_true h2⟩, fun ⟨e, h1, h2⟩ => ⟨e, h1, decide_eq_true h2⟩⟩
def yqa (e : Le) (k : Int) : Le := ⟨e.p, min (e.d + 1) 255, e.h || decide (k <= min (e.d + 1) 255)⟩
def firstFree (l : List Le) : Nat := l.findIdx fun e => !e.h
def zmg (l : List Le) (p : Pr) : Bool := !zcf p l && decide (64 <= l.length)
def zfg (l : List Le) (p : Pr) : List Le := if zmg l p = true then zfm (firstFree l) l else l
def zez (l : List Le) (p : Pr) (k : Int) : Int := if k < 1 \/ 255 < k then 7 else if zmg l p = true /\ ¬ firstFree l < l.length then 17 else 0
def zfb (l : List Le) (p : Pr) (k : Int) : List Le := if zez l p k = 0 then zca (zfg l p) (yqa (zcy l p) k) else []
theorem ztw {e : Le} (k : Int) (h : zig e) : zig (yqa e k) := by
 obtain ⟨h1, h2, h3⟩ := h
 exact ⟨h1, by show 0 <= min _ _; omega, by show min _ _ <= 255; omega⟩
theorem yb4 {l : List Le} (p : Pr) (hl : zef l) : zef (zfg l p) := by
 unfold zfg
 split
 · exact zpd hl
 · exact hl
theorem yjd {l : List Le} {p : Pr} (k : Int) (hl : zef l) (hp : zi0 p) : zef (zfb l p k) := by
 unfold zfb
 split
 · exact zpb (yb4 p hl) (ztw k (zl3 hl hp))
 · exact ⟨List.Pairwise.nil, fun e h => by cases h⟩
theorem yea {l : List Le} {p : Pr} (k : Int) (hl : zef l) (hp : zi0 p) (h64 : l.length <= 64) : (zfb l p k).length <= 64 := by
 unfold zfb
 split
 · rename_i h
   have h1 := (yd5 (yb4 p hl) (ztw k (zl3 hl hp))).1
   have hd : (yqa (zcy l p) k).p = p := ynm l p
   rw [hd] at h1
   by_cases hf : zmg l p = true
   · have hr : zfg l p = zfm (firstFree l) l := if_pos hf
     have hlt : firstFree l < l.length := by
       unfold zez at h
       split at h
       · cases h
       · split at h
         · cases h
         · rename_i h2
           exact Classical.byContradiction fun h3 => h2 ⟨hf, h3⟩
     have := zfx hlt
     rw [hr] at h1 |-
     have : (if zcf p (zfm (firstFree l) l) = true then 0 else 1) <= 1 := by split <;> omega
     omega
   · have hr : zfg l p = l := if_neg hf
     rw [hr] at h1 |-
     unfold zmg at hf
     by_cases hh : zcf p l = true
     · rw [if_pos hh] at h1; omega
     · rw [if_neg hh] at h1
       have hh : zcf p l = false := by simpa using hh
       rw [hh] at hf
       simp at hf
       omega
 · simp
end Sy
end Go.Proofs.YtlphgephdhadhaaGreat
namespace Go.Proofs.YtlphgephdhadhaaGreat
namespace Sy
open Go Go.RowKit
set_option linter.unusedVariables false
def DW (W : World) : Nat -> Prop := fun b => b < W.heap.size
structure yfn {H : Type} (enc : TypeId × Value -> H) (P : Program) (W : World) (t : TypeId) (α : Type) (sz : Nat) (av : α -> Nat -> AV) (ok : α -> Prop) : Prop where
 size : P.cellsOf t = sz
 go : ∀ fuel cs x, DataW.trod enc P W 0 (fun _ => true) true fuel t cs = some x -> ∃ y : α, ok y /\ cs.length = sz /\ ∀ j, j < sz -> ∃ v, cs[j]? = some v /\ one v /\ R W.heap (DW W) zaz (av y j) v
theorem sgl {h : Array Obj} {D : Nat -> Prop} {f : Nat -> AV} {v : Value} (h1 : one v) (h2 : R h D zaz (f 0) v) : ∀ j, j < 1 -> ∃ u, [v][j]? = some u /\ one u /\ R h D zaz (f j) u := by
 intro j hj
 obtain rfl : j = 0 := by omega
 exact ⟨v, rfl, h1, h2⟩
section
variable {H : Type} {enc : TypeId × Value -> H} {P : Program} {W : World}
theorem opens_str {t : TypeId} (ht : P.underlying t = some .string) (hc : P.cellsOf t = 1) : yfn enc P W t (List UInt8) 1 (fun l _ => .str l) (fun l => l.length <= maxLen) := by
 refine ⟨hc, fun fuel cs x h => ?_⟩
 obtain ⟨s, rfl, rfl, hs⟩ := DataW.trod_string ht h
 exact ⟨s.data.toList, by rw [Array.length_toList]; exact hs, rfl, sgl rfl (.str _ _ rfl)⟩
theorem yfn.map {t : TypeId} {α β : Type} {sz : Nat} {av : α -> Nat -> AV} {av' : β -> Nat -> AV} {ok : α -> Prop} {ok' : β -> Prop} (O : yfn enc P W t α sz av ok) (f : α -> β) (h1 : ∀ y j, j < sz -> av y j = av' (f y) j) (h2 : ∀ y, ok y -> ok' (f y)) : yfn enc P W t β sz av' ok' := by
 refine ⟨O.size, fun fuel cs x h => ?_⟩
 obtain ⟨y, y1, y2, y3⟩ := O.go fuel cs x h
 refine ⟨f y, h2 y y1, y2, fun j hj => ?_⟩
 obtain ⟨v, v1, v2, v3⟩ := y3 j hj
 exact ⟨v, v1, v2, by rw [<- h1 y j hj]; exact v3⟩
theorem open_one {t : TypeId} {α : Type} {av : α -> Nat -> AV} {ok : α -> Prop} {v : Value} {d : DataW H} {p : List MemPlace} (O : yfn enc P W t α 1 av ok) (hv : v.cells = #[v]) (h : DataW.Trod enc P W 0 (fun _ => true) true t v d p) :
   ∃ y, ok y /\ R W.heap (DW W) zaz (av y 0) v := by
 obtain ⟨fuel, h⟩ := h
 obtain ⟨y, y1, y2, y3⟩ := O.go _ _ _ h
 obtain ⟨u, u1, u2, u3⟩ := y3 0 (by omega)
 rw [hv] at u1
 simp at u1
 subst u1
 exact ⟨y, y1, u3⟩
end
theorem yfj {P : Program} {f : FuncId} {xs ys : List AV} {r : AV} (h : ∀ h D vs, RL h D zaz xs vs -> RL h D zaz ys vs) (ha : zaf P f ys r) : zaf P f xs r := fun D w vs hD hx => ha D w vs hD (h _ _ _ hx)
end Sy
end Go.Proofs.YtlphgephdhadhaaGreat
namespace Go.Proofs.YtlphgephdhadhaaGreat
namespace Sy
open Go Go.RowKit
set_option maxRecDepth 100000
set_option linter.unusedSimpArgs false
set_option linter.unusedVariables false
structure Vw (α : Type) where
 sz : Nat
 cell : zaa -> α -> Nat -> AV
 rd : (Nat -> AV) -> α
 ok : (Nat -> AV) -> Prop
 d : α
structure zzl {α : Type} (V : Vw α) : Prop where
 turn : ∀ c, V.ok c -> ∀ j, j < V.sz -> ∀ (h : Array Obj) (D : Nat -> Prop) (μ : Mu) (v : Value), R h D μ (c j) v -> R h D μ (V.cell std (V.rd c) j) v
 back : ∀ c x, (∀ j, j < V.sz -> c j = V.cell std x j) -> V.ok c /\ V.rd c = x
def zzg {α : Type} (V : Vw α) (l : List α) (i : Nat) : α := l.getD i V.d
def zkn {α : Type} (l : List α) : Nat := l.length
def getW {α : Type} (L : zaa) (V : Vw α) (l : List α) : Nat -> Nat -> AV := fun i j => V.cell L (L (L (zzg V) l) i) j
def zr0 {α : Type} (L : zaa) (V : Vw α) (l : List α) : AV := .lst V.sz (L zkn l) (getW L V l)
def rdW {α : Type} (V : Vw α) : AV -> List α
 | .lst _ n get => (List.range n).map fun i => V.rd (get i)
 | _ => []
def okW {α : Type} (V : Vw α) : AV -> Prop
 | .lst sz n get => sz = V.sz /\ ∀ i, i < n -> V.ok (get i)
 | .nils => True
 | _ => False
theorem zi7 {α : Type} {V : Vw α} {l : List α} {i : Nat} (h : i < l.length) : zzg V l i = l[i] := by
 rw [zzg, List.getD_eq_getElem?_getD, List.getElem?_eq_getElem h]; rfl
theorem zsx {α : Type} (V : Vw α) (sz n : Nat) (get : Nat -> Nat -> AV) : (rdW V (.lst sz n get)).length = n := by simp [rdW]
theorem yke {α : Type} {V : Vw α} {sz n : Nat} {get : Nat -> Nat -> AV} {i : Nat} (h : i < n) : zzg V (rdW V (.lst sz n get)) i = V.rd (get i) := by
 rw [zi7 (by rw [zsx]; exact h)]
 simp [rdW]
theorem ymz {α : Type} {V : Vw α} (K : zzl V) {h : Array Obj} {D : Nat -> Prop} {μ : Mu} {x : AV} {v : Value} (ho : okW V x) (r : R h D μ x v) : R h D μ (zr0 std V (rdW V x)) v := by
 match x, ho with
 | .nils, _ => cases r; exact .lst0 _ _ none 0 (fun _ => rfl)
 | .lst sz n get, ho =>
   obtain ⟨rfl, ho⟩ := ho
   have e : zr0 std V (rdW V (.lst V.sz n get)) = .lst V.sz n (getW std V (rdW V (.lst V.sz n get))) := by
     show AV.lst V.sz (zkn (rdW V (.lst V.sz n get))) _ = _
     rw [show zkn (rdW V (.lst V.sz n get)) = n from zsx _ _ _ _]
   rw [e]
   cases r with
   | lst0 _ _ a cap hn => exact .lst0 _ _ a cap hn
   | lst _ _ _ b o cap vs hD hc hv h1 hr =>
     refine .lst _ _ _ b o cap vs hD hc hv h1 (fun i j hi hj => ?_)
     show R h D zaz (V.cell std (zzg V (rdW V (.lst V.sz n get)) i) j) (vs i j)
     rw [yke hi]
     exact K.turn _ (ho i hi) j hj _ _ _ _ (hr i j hi hj)
theorem zv2 {α : Type} {V : Vw α} (K : zzl V) {n : Nat} {get : Nat -> Nat -> AV} {l : List α} (hn : n = l.length) (h : ∀ i j, i < n -> j < V.sz -> get i j = V.cell std (zzg V l i) j) : okW V (.lst V.sz n get) /\ rdW V (.lst V.sz n get) = l := by
 subst hn
 refine ⟨⟨rfl, fun i hi => (K.back _ _ (fun j hj => h i j hi hj)).1⟩, ?_⟩
 apply List.ext_getElem
 · rw [zsx]
 · intro i h1 h2
   have := yke (V := V) (sz := V.sz) (get := get) h2
   rw [zi7 h1] at this
   rw [this, (K.back _ _ (fun j hj => h i j h2 hj)).2, zi7 h2]
theorem ybl {α : Type} {V : Vw α} (K : zzl V) (l : List α) : okW V (zr0 std V l) /\ rdW V (zr0 std V l) = l := zv2 K rfl (fun i j hi hj => rfl)
theorem yty {α : Type} {V : Vw α} (K : zzl V) {P : Program} {f : FuncId} {x r : AV} {xs : List AV} (ho : okW V x) (h : zaf P f (zr0 std V (rdW V x) :: xs) r) : zaf P f (x :: xs) r :=
 yfj (fun hp D vs hr => by
   refine ⟨by rw [<- hr.1]; rfl, fun i z v hz hv => ?_⟩
   cases i with
   | zero => cases hz; exact ymz K ho (hr.2 0 x v rfl hv)
   | succ i => exact hr.2 (i + 1) z v hz hv) h
theorem yx7 {α : Type} {V : Vw α} (K : zzl V) {P : Program} {f : FuncId} {y x r : AV} {xs : List AV} (ho : okW V x) (h : zaf P f (y :: zr0 std V (rdW V x) :: xs) r) : zaf P f (y :: x :: xs) r :=
 yfj (fun hp D vs hr => by
   refine ⟨by rw [<- hr.1]; rfl, fun i z v hz hv => ?_⟩
   match i, hz with
   | 0, hz => exact hr.2 0 z v hz hv
   | 1, hz => cases hz; exact ymz K ho (hr.2 1 x v rfl hv)
   | i + 2, hz => exact hr.2 (i + 2) z v hz hv) h
def isS (x : AV) : Prop := ∃ s, x = .str s
def isI (k : IntKind) (x : AV) : Prop := ∃ n, x = .int k n
theorem yo1 {k : IntKind} {x : AV} (h : isI k x) {hp : Array Obj} {D : Nat -> Prop} {μ : Mu} {v : Value} (r : R hp D μ x v) : R hp D μ (.int k x.toI) v := by obtain ⟨s, rfl⟩ := h; exact r
def zrg {α : Type} (p : α -> Bool) : List α -> Int
 | [] => -1
 | x :: l => if p x = true then 0 else if zrg p l < 0 then -1 else zrg p l + 1
theorem ydq {α : Type} (p : α -> Bool) : ∀ l : List α, -1 <= zrg p l /\ zrg p l < l.length
 | [] => by simp [zrg]
 | x :: l => by
   have ih := ydq p l
   rw [List.length_cons]
   unfold zrg
   split
   · omega
   · split <;> omega
theorem ydr {α : Type} {p : α -> Bool} : ∀ {l : List α} {i : Nat} (hi : i < l.length), (∀ k (hk : k < i), p (l[k]'(by omega)) = false) -> p l[i] = true -> zrg p l = i
 | [], i, hi, _, _ => by simp at hi
 | x :: l, 0, hi, _, h => by simp at h; simp [zrg, h]
 | x :: l, i + 1, hi, h0, h => by
   have hx : p x = false := by simpa using h0 0 (by omega)
   have ih := ydr (p := p) (l := l) (i := i) (by simpa using hi) (fun k hk => by have := h0 (k + 1) (by omega); simpa using this) (by simpa using h)
   rw [zrg, if_neg (by rw [hx]; decide), if_neg (by omega), ih]; simp
theorem ydp {α : Type} {p : α -> Bool} : ∀ {l : List α}, (∀ x ∈ l, p x = false) -> zrg p l = -1
 | [], _ => rfl
 | x :: l, h => by
   have hx := h x (by simp)
   have ih := ydp (p := p) (l := l) (fun y hy => h y (by simp [hy]))
   rw [zrg, if_neg (by rw [hx]; decide), if_pos (by omega)]
def zt8 {α : Type} (p : α -> Bool) (l : List α) (i : Nat) : Prop := i <= l.length /\ ∀ x ∈ l.take i, p x = false
theorem yn7 {α : Type} (p : α -> Bool) (l : List α) : zt8 p l 0 := ⟨Nat.zero_le _, fun x hx => by simp at hx⟩
theorem zyc {α : Type} {V : Vw α} {p : α -> Bool} {l : List α} {i : Nat} (h : zt8 p l i) (hi : i < l.length) (hp : p (zzg V l i) = false) : zt8 p l (i + 1) := by
 refine ⟨hi, fun x hx => ?_⟩
 rw [List.take_succ_eq_append_getElem hi, List.mem_append] at hx
 rcases hx with hx | hx
 · exact h.2 x hx
 · rw [List.mem_singleton.1 hx, <- zi7 (V := V) hi]; exact hp
theorem ycc {α : Type} {V : Vw α} {p : α -> Bool} {l : List α} {i : Nat} (h : zt8 p l i) (hi : i < l.length) (hp : p (zzg V l i) = true) : zrg p l = i := by
 rw [zi7 hi] at hp
 refine ydr hi (fun k hk => h.2 _ ?_) hp
 rw [List.mem_take_iff_getElem]
 exact ⟨k, by omega, rfl⟩
theorem ycd {α : Type} {p : α -> Bool} {l : List α} {i : Nat} (h : zt8 p l i) (hi : ¬ i < l.length) : zrg p l = -1 := by
 have := h.2
 rw [List.take_of_length_le (by omega)] at this
 exact ydp this
theorem ys7 {P : Program} {f : FuncId} {sz n : Nat} {get : Nat -> Nat -> AV} {xs : List AV} {O : List (Nat × Ob)} {r : AV} {O1 : List (Nat × Ob)} (h1 : 0 < n -> zb0 P f (.lst sz n get :: xs) O r O1) (h2 : n = 0 -> zb0 P f (.nils :: xs) O r O1) (h3 : n = 0 -> zb0 P f (.emp :: xs) O r O1) : zb0 P f (.lst sz n get :: xs) O r O1 := by
 by_cases h0 : 0 < n
 · exact h1 h0
 obtain rfl : n = 0 := by omega
 intro D w μ vs hD hxs
 obtain ⟨v, hv⟩ : ∃ v, vs[0]? = some v := by
   have := hxs.1
   simp at this
   exact ⟨vs[0], by simp⟩
 have hr := hxs.2 0 _ v rfl hv
 have other : ∀ y, R w.heap D μ y v -> RL w.heap D μ (y :: xs) vs := fun y hy => ⟨hxs.1, fun i z u hz hu => by
   cases i with
   | zero => cases hz; rw [hv] at hu; cases hu; exact hy
   | succ i => exact hxs.2 (i + 1) z u hz hu⟩
 cases hr with
 | lst0 _ _ a cap hn =>
   cases a with
   | none =>
     have := hn rfl
     subst this
     exact h2 rfl D w μ vs hD (other _ .nils)
   | some a => exact h3 rfl D w μ vs hD (other _ (.emp a cap))
 | lst _ _ _ b o cap ws hD' hc hv' h1' hr' => exact h3 rfl D w μ vs hD (other _ (.emp _ cap))
def upN (n : Nat) : Prop := n <= 1000000
def yej (f ty sz : Nat) (L : zaa) : zgz := (f, fun raw ob => match raw with
 | [.lst s n get] => match zav s sz with
   | true => some ⟨[.lst sz n get], [], L upN n, .sl 900 sz 0 n, [(900, .row ty sz n get)]⟩
   | false => none
 | _ => none)
def yc2 (f : Nat) : zgz := (f, fun raw ob => match raw with
 | [.sl a sz off n, .slc b sz' off' n' cap] => match ob a, ob b with
   | some (.row ty _ k get), some (.row ty' _ k' get') => match zbo 1 sz, zav sz sz' with
     | true, true => some ⟨[.sl 500000 sz off n, .slc 500001 sz off' n' cap], [(500000, .row ty sz k get), (500001, .row ty' sz k' get')], True, .bool false, [(500000, .row ty sz k get), (500001, .row ty' sz k' get')]⟩
     | _, _ => none
   | _, _ => none
 | _ => none)
theorem ydl (i j k n : Int) : (ykw i j k n = true) = (0 <= i /\ i <= j /\ j <= k /\ k <= n) := by simp [ykw, and_assoc]
theorem ysv (a : Int) (n : Nat) : gei std (some a) n = a := rfl
theorem ysw (n : Nat) : gei std none n = (n : Int) := rfl
theorem ych (a b : Nat) : (zbv a b = true) = (a <= b) := zd7
theorem ykl (a b : Nat) : (zbo a b = true) = (a < b) := zc9
theorem ykn (a b : Nat) : (zbv a b = false) = (b < a) := by simp [zbv]
theorem ykm (a b : Nat) : (zbo a b = false) = (b <= a) := by simp [zbo]
theorem yh0 (m n : Nat) : (zqh m n = true) = (0 < n /\ m <= n) := by simp [zqh, zbo, zbv]
theorem yl8 (a b : Nat) : Nat.add a b = a + b := rfl
theorem yk4 (a b : Nat) : Nat.sub a b = a - b := rfl
theorem yaa (c : Bool) (x y : AV) : zoi c x y = if c = true then x else y := by cases c <;> rfl
theorem ym2 (sz : Nat) (h : 1 < sz) (c : Bool) (x y : AV) : yfs std sz c x y = if c = true then x else y := by
 unfold yfs
 split
 · omega
 · cases c <;> rfl
theorem yac (off n e : Nat) : (zdy off n e = true) = (off <= e /\ e < off + n) := by simp [zdy, zbv, zbo]
theorem ys5 (a b : Nat) : Nat.min a b = min a b := rfl
def ykv (get gv : Nat -> Nat -> AV) (i : Nat) : Nat -> Nat -> AV := fun q j => if q < i then get q j else if q = i then gv 0 j else get (q - 1) j
def yit (n : Nat) (i : Int) : Prop := n <= 1000000 /\ 0 <= i /\ i <= n
def ywd (f ty sz : Nat) (L : zaa) : zgz := (f, fun raw ob => match raw with
 | [.sl a s 0 n, .int .i64 i, .sl b s' 0 1] => match ob a, ob b, zav s sz, zav s' sz with
   | some (.row _ _ k get), some (.row _ _ _ gv), true, true => some ⟨[.sl 500000 sz 0 n, .int .i64 i, .sl 500001 sz 0 1], [(500000, .row ty sz n get), (500001, .row ty sz 1 gv)], L2 L yit n i, .sl 900 sz 0 (L2 L Nat.add n 1), [(900, .row ty sz (L2 L Nat.add n 1) (L3 L ykv get gv (L Int.toNat i)))]⟩
   | _, _, _, _ => none
 | _ => none)
theorem zh4 {P : Program} {w : World} {tS tR e sz : Nat} (ht : P.underlying tS = some (.slice e)) (hz : ∀ w, (Go.sizeOf e).run P w = .ok sz w) {a b : Option Addr} {la ca lb cb : Nat} (h : la = 0 \/ lb = 0) :
   (Extern.SlicesOverlaps.overlaps #[tS, tS] #[tR] #[.slice a la ca, .slice b lb cb]).run P w = .ok (.bool false) w := by
 have h' : la = 0 \/ lb = 0 \/ sz = 0 := by rcases h with h | h; exact .inl h; exact .inr (.inl h)
 change Sem.run P (α := Value) (do
   let some t := (#[tS, tS] : Array TypeId)[0]? | stuck "slices.overlaps: no parameter types"
   let .slice elem <- underlying t | stuck "slices.overlaps: slice type expected"
   let size <- sizeOf elem
   match a, b with
   | some a, some b =>
     if la = 0 \/ lb = 0 \/ size = 0 then pure (Value.bool false)
     else if a.block != b.block && (<- frozen a) && (<- frozen b) then unsupported .addressObserved
     else do
       if a.block != b.block then do
         noView a; noView b
         if <- mayBeOne a b then return Value.bool ((<- choose (.extern "sameAddr.stringBytes" 2)) == 1)
       pure (Value.bool (a.block == b.block && a.off < b.off + lb * size && b.off < a.off + la * size))
   | _, _ => pure (Value.bool false)) w = _
 cases a <;> cases b <;> simp [run_underlying ht, hz, h']
theorem yhf {P : Program} {f : FuncId} {fn : Func} {tS tR e esz : Nat} (hf : P.funcs[f]? = some fn) (hn : (fn.name == "runtime.NumGoroutine") = false) (hb : fn.body.isNone = true) (hnx : Extern.findNext fn = none) (hx : Extern.find fn = some (Extern.SlicesOverlaps.overlaps #[tS, tS] #[tR]))
   (ht : P.underlying tS = some (.slice e)) (hz : ∀ w, (Go.sizeOf e).run P w = .ok esz w) : zd1 P (yc2 f) := by
 intro raw ob T hT hp
 unfold yc2 at hT
 simp only at hT
 repeat' split at hT
 all_goals first | (cases hT; done) | skip
 rename_i a sz off n b sz' off' n' cap _ _ ty szr k get ty' szr' k' get' he1 he2 _ _ hs hsz
 obtain rfl := za4 hsz
 have hs := zcr hs
 cases hT
 intro D w μ vs hD hxs hdom hobs hinj hown hg hgb
 obtain ⟨v, u, hv⟩ : ∃ v u, vs.toList = [v, u] := by
   have hl : vs.toList.length = 2 := by simpa using hxs.1.symm
   match vs.toList, hl with
   | [a, b], _ => exact ⟨a, b, rfl⟩
 have : vs = #[v, u] := by rw [<- Array.toArray_toList (xs := vs), hv]
 subst this
 have r1 : R w.heap D μ (.sl 500000 sz off n) v := hxs.2 0 _ v rfl rfl
 have r2 : R w.heap D μ (.slc 500001 sz off' n' cap) u := hxs.2 1 _ u rfl rfl
 have key : (Extern.SlicesOverlaps.overlaps #[tS, tS] #[tR] #[v, u]).run P w = .ok (.bool false) w := by
   have r3 := r2.less
   cases r1 with
   | slv _ _ ad hm => cases r3 <;> exact zh4 ht hz (.inl rfl)
   | sl0 _ _ _ b z m o hm ho => cases r3 <;> exact zh4 ht hz (.inl rfl)
   | sl _ _ _ _ b1 z1 m1 cap1 hm1 hn1 hz1 ho1 =>
     cases r3 with
     | slv _ _ ad hm => exact zh4 ht hz (.inr rfl)
     | sl0 _ _ _ b z m o hm ho => exact zh4 ht hz (.inr rfl)
     | sl _ _ _ _ b2 z2 m2 cap2 hm2 hn2 hz2 ho2 =>
       by_cases h0 : n = 0 \/ n' = 0
       · exact zh4 ht hz h0
       obtain ⟨_, C1, t1, fr1, hh1, hc1, hf1, hl1, hr1⟩ := hobs 500000 (.row ty sz k get) _ rfl hm1
       obtain ⟨_, C2, t2, fr2, hh2, hc2, hf2, hl2, hr2⟩ := hobs 500001 (.row ty' sz k' get') _ rfl hm2
       have hne : b1 ≠ b2 := by
         rintro rfl
         have := hinj 500000 500001 b1 _ _ hm1 hm2
         omega
       have hfr := hf1.2.2.2 hs
       have hin : off * sz < z1 := by
         have h1 : (off + 1) * sz <= (off + cap1) * sz := Nat.mul_le_mul_right _ (by omega)
         rw [Nat.add_mul] at h1
         omega
       have hpos : 0 < z2 := by
         have h1 : 1 * sz <= (off' + cap2) * sz := Nat.mul_le_mul_right _ (by omega)
         omega
       have fz : ∀ o, o <= z1 -> w.frozen? { block := b1, off := o, spot := none } = false := by
         intro o ho
         have := hfr o (by omega)
         simp only [World.frozen?, hh1]
         simp only [Bool.and_eq_false_iff, decide_eq_false_iff_not]
         omega
       exact Lib.run_overlaps_apart w tS tR e ht esz hz ⟨b1, off * sz, none⟩ ⟨b2, off' * sz, none⟩ n cap1 n' cap2 hne t1 t2 C1.size C2.size (by simp [World.shape?, hh1]) (by simp [World.shape?, hh2]) (by omega) (fz _ (by omega)) (fz _ (by omega))
 unfold zdv
 rw [show (yc2 f).fst = f from rfl, run_callFunc_extern hf hn hb hnx hx, key]
 exact ⟨_, D, μ, { ret := rfl, os := rfl, tape := rfl, output := rfl, size := Nat.le_refl _, old := fun _ _ _ => rfl, up := fun _ h => h, dn := fun _ h => .inl h, dom := hdom, obs := hobs, inj := hinj, own := fun n b z h => ⟨(hown n b z h).1, (hown n b z h).2, .inr ⟨n, z, h⟩⟩, keep := fun _ _ _ => rfl, val := .bool _ }⟩
def zsg (get : Nat -> Nat -> AV) (i : Nat) : Nat -> Nat -> AV := fun q j => if q < i then get q j else get (q + 1) j
def yjf (n : Nat) (i j : Int) : Prop := n <= 1000000 /\ 0 <= i /\ i < n /\ j = i + 1
def zh2 (n : Nat) : Nat := n - 1
def ywk (f ty sz : Nat) (L : zaa) : zgz := (f, fun raw ob => match raw with
 | [.sl a s 0 n, .int .i64 i, .int .i64 j] => match ob a, zav s sz with
   | some (.row _ _ k get), true => some ⟨[.sl 500000 sz 0 n, .int .i64 i, .int .i64 j], [(500000, .row ty sz n get)], L3 L yjf n i j, .sl 900 sz 0 (L zh2 n), [(900, .row ty sz (L zh2 n) (L2 L zsg get (L Int.toNat i)))]⟩
   | _, _ => none
 | _ => none)
def zbx (n : Int) : Prop := 0 <= n /\ n < 18446744073709551616
def zar (n : Int) : List UInt8 := zdc n.toNat
def zjm (L : zaa) : zcl := (70, fun xs => match xs with | [.int .u64 n] => some (L zbx n, .str (L zar n)) | _ => none)
theorem zhj : zcs Tryz.prog (zjm std) := by
 intro xs p r h hp
 dsimp only [zjm] at h |-
 split at h <;> cases h
 try simp only [L2, L3, std] at hp |-
 rename_i n
 obtain ⟨h0, h1⟩ : zbx n := hp
 obtain ⟨k, rfl⟩ := yci h0
 exact zf6 (fn := Tryz.f70) rfl rfl (by kernel_rfl) (ypr (zil _ _)) (fun h D => ya1 h D _ _) (fun w => ya8 k w (by omega))
theorem zz8 : zaf Tryz.prog 71 [] (.bool true) := by
 refine zab (T := tt) (S := fun L => zbi [zjm L, zy5 L]) (lo := noA) (lb := noA) 5 (fn := Tryz.f71) rfl rfl (by kernel_rfl) (by kernel_rfl) rfl zah (za9 ⟨zhj, zkv, trivial⟩) (by kernel_rfl) ?_
 (intro L P1 Q1 hL hP hQ; cbv; subst hL; simp only [L2, L3, std, syT]; subst hQ)
 (simp only [syS, reduceCtorEq, Int.reduceToNat, Int.reduceAdd, Int.reduceSub])
 exact ⟨by unfold zbx; omega, fun _ => ⟨by unfold yhb; omega, by decide +kernel⟩, by rw [zar, show (300 : Int).toNat = 300 from rfl, zdb (by decide), zbc (by decide)]; rfl⟩
def tru (f : Nat) : zcl := (f, fun xs => match xs with | [] => some (True, .bool true) | _ => none)
theorem zco {P : Program} {f : Nat} (h : zaf P f [] (.bool true)) : zcs P (tru f) := by
 intro xs p r h' hp
 match xs with
 | [] => cases h'; exact h
 | x :: xs => cases h'
theorem zk5 : zaf Tryz.prog 56 [] (.bool true) := by
 refine zab (T := tt) (S := fun L => zbi [tru 71]) (lo := noA) (lb := noA) 5 (fn := Tryz.f56) rfl rfl (by kernel_rfl) (by kernel_rfl) rfl zah (za9 ⟨zco zz8, trivial⟩) (by kernel_rfl) ?_
 (intro L P1 Q1 hL hP hQ; cbv; subst hL; simp only [L2, L3, std, syT]; subst hQ)
 (simp only [syS, reduceCtorEq, Int.reduceToNat, Int.reduceAdd, Int.reduceSub])
def zlx : zgz := (91, fun raw ob => match raw with
 | [.ref id 0] => match ob id with
   | some (.box ty cs) => some ⟨[.ref 500000 0], [(500000, .box ty cs)], True, .ref 500000 0, [(500000, .box ty cs)]⟩
   | _ => none
 | _ => none)
theorem znh : zd1 Tryz.prog zlx := by
 intro raw ob T hT hp
 unfold zlx at hT
 simp only at hT
 split at hT
 · split at hT
   · cases hT
     intro D w μ vs hD hxs hdom hobs hinj hown hg hgb
     obtain ⟨v, hv⟩ : ∃ v, vs.toList = [v] := List.length_eq_one_iff.1 (by simpa using hxs.1.symm)
     have : vs = #[v] := by rw [<- Array.toArray_toList (xs := vs), hv]
     subst this
     unfold zdv
     rw [show zlx.fst = 91 from rfl, run_callFunc_extern (fn := Tryz.f91) rfl (by kernel_rfl) (by kernel_rfl) (by kernel_rfl) (e := Extern.AbiNoEscape.same) (by kernel_rfl)]
     rw [Lib.run_noEscape]
     exact ⟨v, D, μ, { ret := rfl, os := rfl, tape := rfl, output := rfl, size := Nat.le_refl _, old := fun _ _ _ => rfl, up := fun _ h => h, dn := fun _ h => .inl h, dom := hdom, obs := hobs, inj := hinj, own := fun n b z h => ⟨(hown n b z h).1, (hown n b z h).2, .inr ⟨n, z, h⟩⟩, keep := fun _ _ _ => rfl, val := hxs.2 0 _ _ rfl rfl }⟩
   · cases hT
 · cases hT
def yp7 : zgz := (78, fun raw ob => match raw with
 | [.ref id 0] => match ob id with
   | some (.box _ [.nilp, .nils]) => some ⟨[.ref 500000 0], [(500000, .box 97 [.nilp, .nils])], True, .tup [], [(500000, .box 97 [.ref 500000 0, .nils])]⟩
   | some (.box _ [.ref _ 0, .sl k 1 0 n]) => match ob k with
     | some (.row _ 1 m get) => some ⟨[.ref 500000 0], [(500000, .box 97 [.ref 500000 0, .sl 500001 1 0 m]), (500001, .row 5 1 m get)], True, .tup [], [(500000, .box 97 [.ref 500000 0, .sl 500001 1 0 m]), (500001, .row 5 1 m get)]⟩
     | _ => none
   | _ => none
 | _ => none)
theorem yth : zb0 Tryz.prog 78 [.ref 500000 0] [(500000, .box 97 [.nilp, .nils])] (.tup []) [(500000, .box 97 [.ref 500000 0, .nils])] := by
 refine zat (T := tt) (S := fun L => zbe [] [zlx]) (lo := noA) (lb := noA) 5 (fn := Tryz.f78) (xs := fun L => [.ref 500000 0]) (rts := fun _ => []) (O := fun L => [(500000, .box 97 [.nilp, .nils])]) (O1 := fun L => [(500000, .box 97 [.ref 500000 0, .nils])])
   rfl rfl (by kernel_rfl) (by kernel_rfl) (by kernel_rfl) zah (zai trivial ⟨znh, trivial⟩) (by kernel_rfl) ?_
 intro L P' Q' hL hP hQ
 (cbv; try simp only [syT, true_and, and_true])
 exact ⟨fun _ => trivial, fun h => by cases h⟩
theorem ytg (m : Nat) (get : Nat -> Nat -> AV) : zb0 Tryz.prog 78 [.ref 500000 0] [(500000, .box 97 [.ref 500000 0, .sl 500001 1 0 m]), (500001, .row 5 1 m get)] (.tup []) [(500000, .box 97 [.ref 500000 0, .sl 500001 1 0 m]), (500001, .row 5 1 m get)] := by
 refine zat (T := tt) (S := fun L => zbe [] [zlx]) (lo := noA) (lb := noA) 5 (fn := Tryz.f78) (xs := fun L => [.ref 500000 0]) (rts := fun _ => []) (O := fun L => [(500000, .box 97 [.ref 500000 0, .sl 500001 1 0 m]), (500001, .row 5 1 m get)]) (O1 := fun L => [(500000, .box 97 [.ref 500000 0, .sl 500001 1 0 m]), (500001, .row 5 1 m get)])
   rfl rfl (by kernel_rfl) (by kernel_rfl) (by kernel_rfl) zah (zai trivial ⟨znh, trivial⟩) (by kernel_rfl) ?_
 intro L P' Q' hL hP hQ
 (cbv; try simp only [syT, true_and, and_true])
 subst hL
 simp [std]
theorem zmr : zd1 Tryz.prog yp7 := by
 intro raw ob T hT hp
 unfold yp7 at hT
 simp only at hT
 repeat' split at hT
 all_goals first | (cases hT; done) | (cases hT; exact yth) | (cases hT; exact ytg _ _)
def bld (L : zaa) (l : List UInt8) : List (Nat × Ob) := [(500000, .box 97 [.ref 500000 0, .sl 500001 1 0 (L lenN l)]), (500001, .row 5 1 (L lenN l) (fun i _ => .int .u8 (L2 L zac l i)))]
def zuc (L : zaa) (l : List UInt8) : List (Nat × Ob) := [(500000, .box 97 [.ref 500000 0, .sl 7 1 0 (L lenN l)]), (7, .row 5 1 (L lenN l) (fun i _ => .int .u8 (L2 L zac l i)))]
def yqc : List (Nat × Ob) := [(500000, .box 97 [.nilp, .nils])]
def yfc (L : zaa) (ob : Nat -> Option Ob) (id : Nat) : Option (Option (List UInt8)) := match ob id with
 | some (.box _ [.nilp, .nils]) => some none
 | some (.box _ [.ref _ 0, .sl k 1 0 n]) => match ob k with
   | some (.row _ 1 m get) => some (some (L2 L bytesOf m (fun i => (get i 0).toI)))
   | _ => none
 | _ => none
def zad (l m : List UInt8) : List UInt8 := l ++ m
def zcv (c : Int) : List UInt8 := [UInt8.ofNat c.toNat]
def yqp (c : Int) : Prop := 0 <= c /\ c < 256
def zgb (l m : List UInt8) : Prop := l.length + m.length <= 90000000
def yu6 (L : zaa) : zgz := (68, fun raw ob => match raw with
 | [.ref id 0, .int .u8 c] => match yfc L ob id with
   | some none => some ⟨[.ref 500000 0, .int .u8 c], yqc, L yqp c, .dead, zuc L (L zcv c)⟩
   | some (some l) => some ⟨[.ref 500000 0, .int .u8 c], bld L l, L yqp c /\ L2 L zgb l (L zcv c), .dead, zuc L (L2 L zad l (L zcv c))⟩
   | none => none
 | _ => none)
def yu3 (L : zaa) : zgz := (69, fun raw ob => match raw with
 | [.ref id 0, .str s] => match yfc L ob id with
   | some (some l) => some ⟨[.ref 500000 0, .str s], bld L l, L2 L zgb l s, .tup [.int .i64 (L slen s), .dead], zuc L (L2 L zad l s)⟩
   | _ => none
 | _ => none)
def yx2 (L : zaa) : zgz := (54, fun raw ob => match raw with
 | [.ref id 0] => match yfc L ob id with
   | some (some l) => some ⟨[.ref 500000 0], bld L l, L (fun l => l ≠ [] /\ l.length <= 90000000) l, .str l, []⟩
   | _ => none
 | _ => none)
def yx3 (L : zaa) : zgz := (53, fun raw ob => match raw with
 | [.ref id 0] => match yfc L ob id with
   | some (some l) => some ⟨[.ref 500000 0], bld L l, True, .int .i64 (L slen l), bld L l⟩
   | _ => none
 | _ => none)
theorem zpz {l m : List UInt8} {i : Nat} (h : i < l.length) : zac (l ++ m) i = zac l i := by
 simp [zac, List.getElem?_append_left h]
theorem zpy {l m : List UInt8} {i : Nat} (h : ¬ i < l.length) : zac (l ++ m) i = zac m (i - l.length) := by
 simp [zac, List.getElem?_append_right (show l.length <= i by omega)]
theorem zg2 (l : List UInt8) : bytesOf l.length (fun i => zac l i) = l := by
 apply List.ext_getElem
 · simp [bytesOf]
 · intro i h1 h2
   simp [bytesOf, zac, h2]
theorem zx0 {c : Int} (hc : yqp c) (i : Nat) (h : i < 1) : za7 [c] i = zac (zcv c) i := by
 have : i = 0 := by omega
 subst this
 obtain ⟨h0, h1⟩ := hc
 simp [za7, zac, zcv, UInt8.toNat_ofNat']
 omega
theorem yqn (c : Int) (hc : yqp c) : zb0 Tryz.prog 68 [.ref 500000 0, .int .u8 c] yqc .dead (zuc std (zcv c)) := by
 refine zat (T := tt) (S := fun L => zbe [] [yp7]) (lo := noA) (lb := noA) 5 (fn := Tryz.f68) (xs := fun L => [.ref 500000 0, .int .u8 c]) (rts := fun _ => [.dead]) (O := fun L => yqc) (O1 := fun L => zuc L (L zcv c))
   rfl rfl (by kernel_rfl) (by kernel_rfl) (by kernel_rfl) zah (zai trivial ⟨zmr, trivial⟩) (by kernel_rfl) ?_
 intro L P' Q' hL hP hQ
 (cbv; try simp only [syT, true_and, and_true])
 subst hL
 simp only [L2, L3, std, zhk]
 have h1 : lenN (zcv c) = 1 := rfl
 rw [h1]
 exact ⟨by omega, ⟨rfl, fun i j hi hj => by rw [show Nat.add 0 i = i from Nat.zero_add i, zx0 hc i hi]⟩, rfl⟩
theorem yqm (l : List UInt8) (c : Int) (hc : yqp c) (hl : zgb l (zcv c)) : zb0 Tryz.prog 68 [.ref 500000 0, .int .u8 c] (bld std l) .dead (zuc std (zad l (zcv c))) := by
 refine zat (T := tt) (S := fun L => zbe [] [yp7]) (lo := noA) (lb := noA) 5 (fn := Tryz.f68) (xs := fun L => [.ref 500000 0, .int .u8 c]) (rts := fun _ => [.dead]) (O := fun L => bld L l) (O1 := fun L => zuc L (L2 L zad l (L zcv c)))
   rfl rfl (by kernel_rfl) (by kernel_rfl) (by kernel_rfl) zah (zai trivial ⟨zmr, trivial⟩) (by kernel_rfl) ?_
 intro L P' Q' hL hP hQ
 (cbv; try simp only [syT, true_and, and_true])
 subst hL
 simp only [L2, L3, std, zhk]
 have h1 : lenN (zad l (zcv c)) = l.length + 1 := by simp [lenN, zad, zcv]
 have h2 : (zcv c).length = 1 := rfl
 have hl : l.length + (zcv c).length <= 90000000 := hl
 have h3 : lenN l = l.length := rfl
 rw [h1, h3]
 refine ⟨fun _ _ _ _ => trivial, by omega, ⟨rfl, fun i j hi hj => ?_⟩, rfl⟩
 by_cases h : i < l.length
 · rw [zms h, show zad l (zcv c) = l ++ zcv c from rfl, zpz h]; rfl
 · rw [zq1 h, show zad l (zcv c) = l ++ zcv c from rfl, zpy h]
   show AV.int .u8 (za7 [c] (Nat.add 0 (i - l.length))) = _
   rw [show Nat.add 0 (i - l.length) = i - l.length from Nat.zero_add _, zx0 hc _ (by omega)]
theorem yqg (l s : List UInt8) (hl : zgb l s) : zb0 Tryz.prog 69 [.ref 500000 0, .str s] (bld std l) (.tup [.int .i64 (slen s), .dead]) (zuc std (zad l s)) := by
 refine zat (T := tt) (S := fun L => zbe [] [yp7]) (lo := noA) (lb := noA) 5 (fn := Tryz.f69) (xs := fun L => [.ref 500000 0, .str s]) (rts := fun L => [.int .i64 (L slen s), .dead]) (O := fun L => bld L l) (O1 := fun L => zuc L (L2 L zad l s))
   rfl rfl (by kernel_rfl) (by kernel_rfl) (by kernel_rfl) zah (zai trivial ⟨zmr, trivial⟩) (by kernel_rfl) ?_
 intro L P' Q' hL hP hQ
 (cbv; try simp only [syT, true_and, and_true])
 subst hL
 simp only [L2, L3, std, zhk]
 have h1 : lenN (zad l s) = l.length + s.length := by simp [lenN, zad]
 have hl : l.length + s.length <= 90000000 := hl
 have h3 : lenN l = l.length := rfl
 rw [h1, h3]
 refine ⟨fun _ _ _ _ => trivial, by omega, ⟨rfl, fun i j hi hj => ?_⟩, rfl⟩
 by_cases h : i < l.length
 · rw [zms h, show zad l s = l ++ s from rfl, zpz h]; rfl
 · rw [zq1 h, show zad l s = l ++ s from rfl, zpy h]; rfl
theorem ytm (l : List UInt8) (h0 : l ≠ []) (hl : l.length <= 90000000) : zb0 Tryz.prog 54 [.ref 500000 0] (bld std l) (.str l) [] := by
 refine zat (T := tt) (S := fun L => zbe [] [yp7]) (lo := noA) (lb := noA) 5 (fn := Tryz.f54) (xs := fun L => [.ref 500000 0]) (rts := fun L => [.str l]) (O := fun L => bld L l) (O1 := fun L => [])
   rfl rfl (by kernel_rfl) (by kernel_rfl) (by kernel_rfl) zah (zai trivial ⟨zmr, trivial⟩) (by kernel_rfl) ?_
 intro L P' Q' hL hP hQ
 (cbv; try simp only [syT, true_and, and_true])
 subst hL
 simp only [L2, L3, std]
 have h3 : lenN l = l.length := rfl
 have h1 : 0 < l.length := List.length_pos_iff.2 h0
 refine ⟨zms h1, ⟨by show (0 : Int) < (l.length : Int); omega, by show (l.length : Int) <= (l.length : Int); omega, by show (l.length : Int) <= _; omega, fun i hi => ⟨_, rfl, ?_, ?_⟩⟩, zg2 l⟩
 · simp [zac]
 · have := UInt8.toNat_lt (l.getD i 0)
   show ((l.getD i 0).toNat : Int) < 256
   omega
theorem yto (l : List UInt8) : zb0 Tryz.prog 53 [.ref 500000 0] (bld std l) (.int .i64 (slen l)) (bld std l) := by
 refine zat (T := tt) (S := fun L => zbe [] [yp7]) (lo := noA) (lb := noA) 5 (fn := Tryz.f53) (xs := fun L => [.ref 500000 0]) (rts := fun L => [.int .i64 (L slen l)]) (O := fun L => bld L l) (O1 := fun L => bld L l)
   rfl rfl (by kernel_rfl) (by kernel_rfl) (by kernel_rfl) zah (zai trivial ⟨zmr, trivial⟩) (by kernel_rfl) ?_
 intro L P' Q' hL hP hQ
 (cbv; try simp only [syT, true_and, and_true])
 subst hL
 exact ⟨fun _ _ _ _ => trivial, rfl⟩
theorem zzr : zd1 Tryz.prog (yu6 std) := by
 intro raw ob T hT hp
 unfold yu6 at hT
 simp only at hT
 repeat' split at hT
 all_goals first | (cases hT; done) | (cases hT; exact yqn _ hp) | (cases hT; exact yqm _ _ hp.1 hp.2)
theorem zzm : zd1 Tryz.prog (yu3 std) := by
 intro raw ob T hT hp
 unfold yu3 at hT
 simp only at hT
 repeat' split at hT
 all_goals first | (cases hT; done) | (cases hT; exact yqg _ _ hp)
theorem ypl : zd1 Tryz.prog (yx2 std) := by
 intro raw ob T hT hp
 unfold yx2 at hT
 simp only at hT
 repeat' split at hT
 all_goals first | (cases hT; done) | (cases hT; exact ytm _ hp.1 hp.2)
theorem ypn : zd1 Tryz.prog (yx3 std) := by
 intro raw ob T hT hp
 unfold yx3 at hT
 simp only at hT
 repeat' split at hT
 all_goals first | (cases hT; done) | (cases hT; exact yto _)
inductive CV where
 | mk (k n : Int) (s : List UInt8) (l : List CV)
namespace CV
def kd : CV -> Int
 | mk k _ _ _ => k
def nn : CV -> Int
 | mk _ n _ _ => n
def tx : CV -> List UInt8
 | mk _ _ s _ => s
def ls : CV -> List CV
 | mk _ _ _ l => l
theorem eta (v : CV) : mk v.kd v.nn v.tx v.ls = v := by cases v; rfl
end CV
def zae (l : List CV) (i : Nat) : CV := l.getD i (.mk 0 0 [] [])
def lenL (l : List CV) : Nat := l.length
def zfa (v : CV) : Nat := v.ls.length
def sizeC : CV -> Nat
 | .mk _ _ _ l => sizeCs l + 1
where sizeCs : List CV -> Nat
 | [] => 0
 | v :: l => sizeC v + sizeCs l
abbrev sizeCs := sizeC.sizeCs
theorem zdw : sizeCs [] = 0 := by simp [sizeC.sizeCs]
theorem zbw (v : CV) (l : List CV) : sizeCs (v :: l) = sizeC v + sizeCs l := by simp [sizeC.sizeCs]
theorem ze6 (k n : Int) (s : List UInt8) (l : List CV) : sizeC (.mk k n s l) = sizeCs l + 1 := by rw [sizeC]
theorem zfr (v : CV) : 0 < sizeC v := by cases v; rw [ze6]; omega
theorem zlj : ∀ (l : List CV) (i : Nat), i < l.length -> sizeC (zae l i) <= sizeCs l
 | [], i, h => by simp at h
 | v :: l, 0, h => by rw [zbw]; show sizeC v <= _; omega
 | v :: l, i + 1, h => by
   have := zlj l i (by simpa using h)
   rw [zbw]
   show sizeC (zae l i) <= _
   omega
theorem zvl {l : List CV} {i : Nat} (h : i < l.length) : zae l i ∈ l := by
 rw [zae, List.getD_eq_getElem?_getD, List.getElem?_eq_getElem h]; exact List.getElem_mem h
theorem yl2 {p : CV -> Prop} (h : ∀ k n s l, (∀ v ∈ l, p v) -> p (.mk k n s l)) : ∀ (m : Nat) (v : CV), sizeC v <= m -> p v
 | 0, v, hv => by have := zfr v; omega
 | m + 1, .mk k n s l, hv => h k n s l fun w hw => by
   rw [ze6] at hv
   obtain ⟨i, hi, rfl⟩ := List.getElem_of_mem hw
   have := zlj l i hi
   have e : zae l i = l[i] := by rw [zae, List.getD_eq_getElem?_getD, List.getElem?_eq_getElem hi]; rfl
   rw [e] at this
   exact yl2 h m _ (by omega)
theorem yef {p : CV -> Prop} (h : ∀ k n s l, (∀ v ∈ l, p v) -> p (.mk k n s l)) (v : CV) : p v := yl2 h _ v (Nat.le_refl _)
def dflC : Nat -> AV
 | 0 => .int .i64 0
 | 1 => .int .u64 0
 | 2 => .str []
 | _ => .lst 4 0 (fun _ _ => .dead)
mutual
def zf2 : CV -> Nat -> AV
 | .mk k n s l, j => match j with
   | 0 => .int .i64 k
   | 1 => .int .u64 n
   | 2 => .str s
   | _ => .lst 4 l.length (zf1 l)
def zf1 : List CV -> Nat -> Nat -> AV
 | [], _, j => dflC j
 | v :: l, i, j => match i with
   | 0 => zf2 v j
   | i + 1 => zf1 l i j
end
theorem zgu (v : CV) : zf2 v 0 = .int .i64 v.kd := by cases v; rw [zf2]; rfl
theorem zgt (v : CV) : zf2 v 1 = .int .u64 v.nn := by cases v; rw [zf2]; rfl
theorem zgs (v : CV) : zf2 v 2 = .str v.tx := by cases v; rw [zf2]; rfl
theorem zgr (v : CV) : zf2 v 3 = .lst 4 v.ls.length (zf1 v.ls) := by cases v; rw [zf2] <;> first | rfl | (intro h; cases h)
theorem zb4 : ∀ (l : List CV) (i j : Nat), i < l.length -> zf1 l i j = zf2 (zae l i) j
 | [], i, j, h => by simp at h
 | v :: l, 0, j, h => by rw [zf1]; rfl
 | v :: l, i + 1, j, h => by rw [zf1]; exact zb4 l i j (by simpa using h)
def zgq (v : CV) : Nat -> Nat -> AV := zf1 v.ls
def cv1 (L : zaa) (v : CV) : Nat -> AV
 | 0 => .int .i64 (L CV.kd v)
 | 1 => .int .u64 (L CV.nn v)
 | 2 => .str (L CV.tx v)
 | _ => .lst 4 (L zfa v) (L zgq v)
theorem zfo (v : CV) (j : Nat) (h : j < 4) : cv1 std v j = zf2 v j := by
 match j, h with
 | 0, _ => rw [zgu]; rfl
 | 1, _ => rw [zgt]; rfl
 | 2, _ => rw [zgs]; rfl
 | 3, _ => rw [zgr]; rfl
def cvL (L : zaa) (l : List CV) : AV := .lst 4 (L lenL l) (fun i j => cv1 L (L2 L zae l i) j)
def cvA (L : zaa) (v : CV) : AV := .agg [.int .i64 (L CV.kd v), .int .u64 (L CV.nn v), .str (L CV.tx v), .lst 4 (L zfa v) (L zgq v)]
def rdL : AV -> List CV
 | .lst _ n get => (List.range n).map fun i => .mk (get i 0).toI (get i 1).toI (match get i 2 with | .str s => s | _ => []) (rdL (get i 3))
 | _ => []
def okL : AV -> Prop
 | .lst sz n get => sz = 4 /\ ∀ i, i < n -> (∃ x, get i 0 = .int .i64 x) /\ (∃ x, get i 1 = .int .u64 x) /\ (∃ x, get i 2 = .str x) /\ okL (get i 3)
 | .nils => True
 | _ => False
theorem zln (sz n : Nat) (get : Nat -> Nat -> AV) : (rdL (.lst sz n get)).length = n := by simp [rdL]
theorem zv0 {sz n : Nat} {get : Nat -> Nat -> AV} {i : Nat} (h : i < n) : zae (rdL (.lst sz n get)) i = .mk (get i 0).toI (get i 1).toI (match get i 2 with | .str s => s | _ => []) (rdL (get i 3)) := by
 rw [zae, List.getD_eq_getElem?_getD, rdL]
 simp [h]
theorem yl3 {a b : List CV} (h : a.length = b.length) (k : ∀ i, i < a.length -> zae a i = zae b i) : a = b := by
 apply List.ext_getElem h
 intro i h1 h2
 have := k i h1
 rw [zae, zae, List.getD_eq_getElem?_getD, List.getD_eq_getElem?_getD, List.getElem?_eq_getElem h1, List.getElem?_eq_getElem h2] at this
 exact this
theorem ymj : ∀ v : CV, rdL (zf2 v 3) = v.ls /\ okL (zf2 v 3) := by
 refine yef fun k n s l ih => ?_
 rw [zgr]
 show rdL (.lst 4 l.length (zf1 l)) = l /\ okL (.lst 4 l.length (zf1 l))
 refine ⟨yl3 (zln _ _ _) fun i hi => ?_, rfl, fun i hi => ?_⟩
 · rw [zln] at hi
   rw [zv0 hi, zb4 _ _ _ hi, zb4 _ _ _ hi, zb4 _ _ _ hi, zb4 _ _ _ hi, zgu, zgt, zgs, (ih _ (zvl hi)).1]
   exact CV.eta _
 · rw [zb4 _ _ _ hi, zb4 _ _ _ hi, zb4 _ _ _ hi, zb4 _ _ _ hi, zgu, zgt, zgs]
   exact ⟨⟨_, rfl⟩, ⟨_, rfl⟩, ⟨_, rfl⟩, (ih _ (zvl hi)).2⟩
theorem zkk (v : CV) : rdL (.lst 4 (zfa v) (zgq v)) = v.ls /\ okL (.lst 4 (zfa v) (zgq v)) := by
 have := ymj v
 rw [zgr] at this
 exact this
theorem ybk (l : List CV) : rdL (cvL std l) = l /\ okL (cvL std l) := by
 refine ⟨yl3 (zln _ _ _) fun i hi => ?_, rfl, fun i hi => ⟨⟨_, rfl⟩, ⟨_, rfl⟩, ⟨_, rfl⟩, (zkk _).2⟩⟩
 have hi : i < l.length := by rw [show (rdL (cvL std l)).length = lenL l from zln _ _ _] at hi; exact hi
 show zae (rdL (.lst 4 (lenL l) _)) i = _
 rw [zv0 (show i < lenL l from hi)]
 show CV.mk (zae l i).kd (zae l i).nn (zae l i).tx (rdL (.lst 4 (zfa (zae l i)) (zgq (zae l i)))) = _
 rw [(zkk _).1, CV.eta]
theorem yrz {h : Array Obj} {D : Nat -> Prop} : ∀ (x : AV) {μ : Mu} {v : Value}, okL x -> R h D μ x v -> R h D μ (.lst 4 (rdL x).length (zf1 (rdL x))) v := by
 intro x μ v ho r
 induction r with
 | nils => exact .lst0 _ _ _ _ (fun _ => rfl)
 | lst0 sz get a cap hn => exact .lst0 _ _ _ _ hn
 | lst sz n get b o cap vs hD hc hv h1 hr ih =>
   obtain ⟨rfl, ho⟩ := ho
   rw [zln]
   refine .lst _ _ _ b o cap vs hD hc hv h1 (fun i j hi hj => ?_)
   rw [zb4 _ _ _ (by rw [zln]; exact hi), zv0 hi]
   obtain ⟨⟨x0, e0⟩, ⟨x1, e1⟩, ⟨x2, e2⟩, o3⟩ := ho i hi
   have hj' := hr i j hi hj
   match j, hj with
   | 0, _ => rw [zgu]; rw [e0] at hj' |-; exact hj'
   | 1, _ => rw [zgt]; rw [e1] at hj' |-; exact hj'
   | 2, _ => rw [zgs]; rw [e2] at hj' |-; exact hj'
   | 3, _ => rw [zgr]; exact ih i 3 hi (by omega) o3
 | _ => exact ho.elim
theorem yta {h : Array Obj} {D : Nat -> Prop} {μ : Mu} {l : List CV} {v : Value} (r : R h D μ (.lst 4 l.length (zf1 l)) v) : R h D μ (cvL std l) v :=
 zp5 r fun i j hi hj => by
   rw [zb4 _ _ _ hi]
   exact (zfo _ j hj).symm
mutual
def zdo : CV -> Int
 | .mk k _ _ l => if k = 3 then zb3 l + 1 else 0
def zb3 : List CV -> Int
 | [] => 0
 | v :: l => max (zdo v) (zb3 l)
end
theorem znz : ∀ a b : List CV, zb3 (a ++ b) = max (zb3 a) (zb3 b)
 | [], b => by
   rw [List.nil_append, zb3]
   have : ∀ b : List CV, 0 <= zb3 b := by
     intro b
     induction b with
     | nil => rw [zb3]; omega
     | cons v l ih => rw [zb3]; omega
   have := this b
   omega
 | v :: a, b => by rw [List.cons_append, zb3, znz a b, zb3]; omega
theorem zup {l : List CV} {i : Nat} (h : i < l.length) : l.take (i + 1) = l.take i ++ [zae l i] := by
 rw [List.take_succ_eq_append_getElem h, zae, List.getD_eq_getElem?_getD, List.getElem?_eq_getElem h]; rfl
def zi1 (l : List CV) (i : Nat) : Int := zb3 (l.take i)
theorem ztx {l : List CV} {i : Nat} (h : i < l.length) : zi1 l (i + 1) = max (zi1 l i) (zdo (zae l i)) := by
 unfold zi1
 rw [zup h, znz, zb3, zb3]
 have : 0 <= zdo (zae l i) \/ True := .inr trivial
 have h0 : ∀ b : List CV, 0 <= zb3 b := by
   intro b
   induction b with
   | nil => rw [zb3]; omega
   | cons v l ih => rw [zb3]; omega
 have := h0 (l.take i)
 omega
mutual
def zf4 : CV -> Bool
 | .mk k n s l => if k = 1 then decide (s = []) && l.isEmpty else if k = 2 then decide (n = 0) && l.isEmpty else if k = 3 then decide (n = 0) && decide (s = []) && zdp l else false
def zdp : List CV -> Bool
 | [] => true
 | v :: l => zf4 v && zdp l
end
def zf3 (k : Int) : List UInt8 := [UInt8.ofNat (k % 256).toNat]
mutual
def zbd : CV -> List UInt8
 | .mk k n s l => zf3 k ++ if k = 1 then zar n else if k = 2 then zar s.length ++ s else zar l.length ++ zao l
def zao : List CV -> List UInt8
 | [] => []
 | v :: l => zbd v ++ zao l
end
theorem zhi : ∀ a b : List CV, zao (a ++ b) = zao a ++ zao b
 | [], b => by rw [zao]; rfl
 | v :: a, b => by rw [List.cons_append, zao, zhi a b, zao, List.append_assoc]
def zhz (l : List CV) (i : Nat) : List UInt8 := zao (l.take i)
theorem zer {l : List CV} {i : Nat} (h : i < l.length) : zhz l (i + 1) = zhz l i ++ zbd (zae l i) := by
 unfold zhz
 rw [zup h, zhi, zao, zao, List.append_nil]
def mkV (L : zaa) (k n : Int) (s : List UInt8) (x : AV) : CV := L (L (L (L CV.mk k) n) s) (L rdL x)
def zoe (N : Nat) (v : CV) : Prop := sizeC v <= N /\ N <= 1000000
def zsm (N : Nat) (l : List CV) : Prop := sizeCs l <= N /\ N <= 1000000
theorem znk : ∀ l : List CV, l.length <= sizeCs l
 | [] => by simp
 | v :: l => by
   have := znk l
   have := zfr v
   rw [zbw, List.length_cons]; omega
theorem zvk {N : Nat} {l : List CV} {i : Nat} (h : zsm N l) (hi : i < l.length) : zoe N (zae l i) := by
 have := zlj l i hi
 exact ⟨by have := h.1; omega, h.2⟩
theorem zd6 {N : Nat} {k n : Int} {s : List UInt8} {l : List CV} : zoe (N + 1) (.mk k n s l) = (zsm N l /\ N + 1 <= 1000000) := by
 unfold zoe zsm
 rw [ze6]
 exact propext ⟨fun h => ⟨⟨by omega, by omega⟩, by omega⟩, fun h => ⟨by have := h.1.1; omega, h.2⟩⟩
theorem zfe (v : CV) : CV.mk v.kd v.nn v.tx (rdL (.lst 4 (zfa v) (zgq v))) = v := by rw [(zkk v).1]; exact CV.eta v
theorem zce (v : CV) : mkV std v.kd v.nn v.tx (.lst 4 (zfa v) (zgq v)) = v := zfe v
theorem rdl (l : List CV) : rdL (.lst 4 (lenL l) fun i => cv1 std (zae l i)) = l := (ybk l).1
theorem okl (l : List CV) : okL (.lst 4 (lenL l) fun i => cv1 std (zae l i)) := (ybk l).2
theorem mkl (k n : Int) (s : List UInt8) (l : List CV) : mkV std k n s (.lst 4 (lenL l) fun i => cv1 std (zae l i)) = .mk k n s l := by
 show CV.mk k n s (rdL _) = _
 rw [rdl]
theorem ylj {h : Array Obj} {D : Nat -> Prop} {μ : Mu} {a b c x : AV} {v : Value} (ho : okL x) (r : R h D μ (.agg [a, b, c, x]) v) : R h D μ (.agg [a, b, c, cvL std (rdL x)]) v := by
 obtain ⟨us, rfl, o1, s1, hr⟩ := r.inv_agg
 refine .agg _ _ (by rw [<- s1]; rfl) o1 fun i y v hy hv => ?_
 match i, hy with
 | 0, hy => cases hy; exact hr 0 _ v rfl hv
 | 1, hy => cases hy; exact hr 1 _ v rfl hv
 | 2, hy => cases hy; exact hr 2 _ v rfl hv
 | 3, hy => cases hy; exact yta (yrz x ho (hr 3 _ v rfl hv))
 | i + 4, hy => simp at hy
theorem yug {h : Array Obj} {D : Nat -> Prop} {μ : Mu} {x y : AV} {r : List AV} {vs : Array Value} (e : ∀ v, R h D μ x v -> R h D μ y v) (hr : RL h D μ (x :: r) vs) : RL h D μ (y :: r) vs := by
 refine ⟨by rw [<- hr.1]; rfl, fun i z v hz hv => ?_⟩
 cases i with
 | zero => cases hz; exact e v (hr.2 0 x v rfl hv)
 | succ i => exact hr.2 (i + 1) z v hz hv
theorem rl_2 {h : Array Obj} {D : Nat -> Prop} {μ : Mu} {a x y : AV} {r : List AV} {vs : Array Value} (e : ∀ v, R h D μ x v -> R h D μ y v) (hr : RL h D μ (a :: x :: r) vs) : RL h D μ (a :: y :: r) vs := by
 refine ⟨by rw [<- hr.1]; rfl, fun i z v hz hv => ?_⟩
 match i, hz with
 | 0, hz => exact hr.2 0 z v hz hv
 | 1, hz => cases hz; exact e v (hr.2 1 x v rfl hv)
 | i + 2, hz => exact hr.2 (i + 2) z v hz hv
theorem zji {P : Program} {f : FuncId} {xs ys : List AV} {r : AV} (h : ∀ h D vs, RL h D zaz xs vs -> RL h D zaz ys vs) (ha : zaf P f ys r) : zaf P f xs r := fun D w vs hD hx => ha D w vs hD (h _ _ _ hx)
theorem ytz {P : Program} {f : FuncId} {a b c x r : AV} (ho : okL x) (h : zaf P f [.agg [a, b, c, cvL std (rdL x)]] r) : zaf P f [.agg [a, b, c, x]] r :=
 zji (fun h D vs hr => yug (fun v => ylj ho) hr) h
theorem ysg {h : Array Obj} {D : Nat -> Prop} {μ : Mu} {x : AV} {v : Value} (ho : okL x) (r : R h D μ x v) : R h D μ (cvL std (rdL x)) v := yta (yrz x ho r)
theorem yus {P : Program} {f : FuncId} {x r : AV} {q : List AV} (ho : okL x) (h : zaf P f (cvL std (rdL x) :: q) r) : zaf P f (x :: q) r :=
 zji (fun h D vs hr => yug (fun v => ysg ho) hr) h
def ywl (L : zaa) (l : List CV) : Nat -> St -> Option Ann := fun id s => match id with
 | 0 => some ⟨Nat, fun i => [(12, .int .i64 (L za8 i)), (3, .int .i64 (L2 L zi1 l i))], fun i => [], [10, 11], [],
     fun i => L2 L (fun (l : List CV) i => i <= l.length) l i, fun i => L2 L (fun (l : List CV) (i : Nat) => l.length - i) l i⟩
 | _ => none
def zrz (N : Nat) (L : zaa) : zcl := (51, fun xs => match xs with
 | [.agg [.int .i64 k, .int .u64 n, .str s, x]] => some (L okL x /\ L2 L zoe N (mkV L k n s x), .int .i64 (L zdo (mkV L k n s x)))
 | _ => none)
theorem yp0 : ∀ v, 0 <= zdo v /\ zdo v <= (sizeC v : Int) := by
 refine yef fun k n s l ih => ?_
 have : ∀ m : List CV, (∀ v ∈ m, 0 <= zdo v /\ zdo v <= (sizeC v : Int)) -> 0 <= zb3 m /\ zb3 m <= (sizeCs m : Int) := by
   intro m
   induction m with
   | nil => intro _; rw [zb3, zdw]; omega
   | cons v m ih =>
     intro h
     have h1 := h v (by simp)
     have h2 := ih fun w hw => h w (by simp [hw])
     rw [zb3, zbw]; omega
 have := this l ih
 rw [zdo, ze6]
 split <;> omega
theorem yed (l : List CV) (i : Nat) : 0 <= zi1 l i /\ zi1 l i <= (sizeCs l : Int) := by
 have h1 : ∀ m : List CV, 0 <= zb3 m /\ zb3 m <= (sizeCs m : Int) := by
   intro m
   induction m with
   | nil => rw [zb3, zdw]; omega
   | cons v m ih => have := yp0 v; rw [zb3, zbw]; omega
 have h2 := h1 (l.take i)
 have h3 : ∀ (m : List CV) (i : Nat), sizeCs (m.take i) <= sizeCs m := by
   intro m
   induction m with
   | nil => intro i; simp
   | cons v m ih =>
     intro i
     cases i with
     | zero => rw [List.take_zero, zdw]; omega
     | succ i => have := ih i; rw [List.take_succ_cons, zbw, zbw]; omega
 have := h3 l i
 exact ⟨h2.1, by unfold zi1; omega⟩
theorem yec : ∀ N, zcs Tryz.prog (zrz N std) := by
 intro N
 induction N with
 | zero =>
   intro xs p r h hp
   unfold zrz at h
   simp only at h
   split at h
   · rename_i k n s x
     cases h
     have h1 : sizeC (mkV std k n s x) <= 0 := hp.2.1
     have := zfr (mkV std k n s x)
     omega
   · cases h
 | succ N ih =>
   intro xs p r h hp
   unfold zrz at h
   simp only at h
   split at h
   · rename_i k n s x
     cases h
     obtain ⟨ho, hz⟩ := hp
     refine ytz ho ?_
     show zaf _ _ _ (.int .i64 (zdo (.mk k n s (rdL x))))
     have hz : zoe (N + 1) (.mk k n s (rdL x)) := hz
     generalize rdL x = l at hz |-
     refine zau (T := tt) (S := fun L => zbi [zrz N L]) (lo := fun L => ywl L l) (lb := noA) 5 (fn := Tryz.f51) (xs := fun L => [.agg [.int .i64 k, .int .u64 n, .str s, cvL L l]]) rfl rfl (by kernel_rfl) (by kernel_rfl) rfl zah
       (za9 ⟨ih, trivial⟩) (by kernel_rfl) ?_
     intro L P' Q' hL hP hQ
     (cbv; try simp only [syT, true_and, and_true])
     refine ⟨fun h => ?_, fun h => ⟨⟨0, ?_⟩, fun i hi => ?_⟩⟩
     · (subst hL; subst hQ; simp only [L2, L3, std] at *; try simp only [syS, reduceCtorEq, Int.reduceToNat, Int.reduceAdd, Int.reduceSub] at *)
       rw [zdo, if_neg h]
     · (cbv; try simp only [syT, true_and, and_true])
       (subst hL; subst hQ; simp only [L2, L3, std] at *; try simp only [syS, reduceCtorEq, Int.reduceToNat, Int.reduceAdd, Int.reduceSub] at *)
       exact ⟨by rw [zi1, List.take_zero, zb3], Nat.zero_le _⟩
     · cbv at hi
       (cbv; try simp only [syT, true_and, and_true])
       refine ⟨fun hlt => ⟨?_, ⟨?_, ?_⟩, ⟨i + 1, ?_⟩⟩, fun hge => ?_⟩
       · (subst hL; subst hQ; simp only [L2, L3, std] at *; try simp only [syS, reduceCtorEq, Int.reduceToNat, Int.reduceAdd, Int.reduceSub] at *)
         omega
       · (subst hL; subst hQ; simp only [L2, L3, std] at *; try simp only [syS, reduceCtorEq, Int.reduceToNat, Int.reduceAdd, Int.reduceSub] at *)
         exact (zkk _).2
       · (subst hL; subst hQ; simp only [L2, L3, std] at *; try simp only [syS, reduceCtorEq, Int.reduceToNat, Int.reduceAdd, Int.reduceSub] at *)
         rw [zfe]
         rw [zd6] at hz
         exact zvk hz.1 (by have : lenL l = l.length := rfl; omega)
       · (cbv; try simp only [syT, true_and, and_true])
         (subst hL; subst hQ; simp only [L2, L3, std] at *; try simp only [syS, reduceCtorEq, Int.reduceToNat, Int.reduceAdd, Int.reduceSub] at *)
         have : lenL l = l.length := rfl
         have := znk l
         have h1 := hz.1
         have h2 := hz.2
         rw [ze6] at h1
         rw [zce]
         exact ⟨by rw [ztx (by omega)], by omega, by omega, by omega⟩
       · (subst hL; subst hQ; simp only [L2, L3, std] at *; try simp only [syS, reduceCtorEq, Int.reduceToNat, Int.reduceAdd, Int.reduceSub] at *)
         have : lenL l = l.length := rfl
         have hil : i = l.length := by omega
         have h3 := yed l i
         have h1 := hz.1
         have h2 := hz.2
         rw [ze6] at h1
         rw [zdo, if_pos h, hil, zi1, List.take_length]
         rw [hil, zi1, List.take_length] at h3
         omega
   · cases h
def okG {α : Type} (V : Vw α) : AV -> Prop
 | .agg cs => cs.length = V.sz /\ V.ok (fun j => zby .dead cs j)
 | _ => False
def rdG {α : Type} (V : Vw α) : AV -> α
 | .agg cs => V.rd (fun j => zby .dead cs j)
 | _ => V.d
theorem ycz (cs : List AV) (j : Nat) : zby .dead cs j = (cs[j]?).getD .dead := by
 induction cs generalizing j with
 | nil => cases j <;> rfl
 | cons x l ih => cases j with
   | zero => rfl
   | succ j => exact ih j
theorem gK {α : Type} {V : Vw α} (K : zzl V) (x : α) (cs : List AV) (h : cs = (List.range V.sz).map (V.cell std x)) : okG V (.agg cs) /\ rdG V (.agg cs) = x := by
 have h1 : ∀ j, j < V.sz -> zby .dead cs j = V.cell std x j := fun j hj => by rw [ycz, h]; simp [hj]
 have h2 := K.back _ x h1
 exact ⟨⟨by simp [h], h2.1⟩, h2.2⟩
theorem G_R {α : Type} {V : Vw α} (K : zzl V) {x : AV} (ho : okG V x) {h : Array Obj} {D : Nat -> Prop} {μ : Mu} {v : Value} (r : R h D μ x v) : R h D μ (.agg ((List.range V.sz).map (V.cell std (rdG V x)))) v := by
 match x, ho with
 | .agg cs, ho =>
   obtain ⟨us, rfl, o1, s1, hr⟩ := r.inv_agg
   refine .agg _ _ (by rw [<- s1]; simp [ho.1]) o1 fun i y w hy hw => ?_
   have hi : i < V.sz := by
     have := (List.getElem?_eq_some_iff.1 hy).1
     simpa using this
   simp [hi] at hy
   subst hy
   have hc : cs[i]? = some (zby .dead cs i) := by
     rw [ycz, List.getElem?_eq_getElem (by rw [ho.1]; exact hi)]; rfl
   exact K.turn _ ho.2 i hi _ _ _ _ (hr i _ w hc hw)
theorem yx8 {α : Type} {V : Vw α} (K : zzl V) {P : Program} {f : FuncId} {x r : AV} {q : List AV} (ho : okG V x) (h : zaf P f (.agg ((List.range V.sz).map (V.cell std (rdG V x))) :: q) r) : zaf P f (x :: q) r :=
 zji (fun h D vs hr => yug (fun v => G_R K ho) hr) h
def zgg (n : Nat) (g : Nat -> Nat -> AV) : List Int := (List.range n).map fun i => (g i 0).toI
def byG (n : Nat) (g : Nat -> Nat -> AV) : Prop := ∀ i, i < n -> ∃ x, g i 0 = .int .u8 x
def bcI (l m : List Int) : Int := Lib.compareBytes (prB l) (prB m)
theorem yf8 {P : Program} {w : World} {D : Nat -> Prop} {μ : Mu} {n : Nat} {g : Nat -> Nat -> AV} {v : Value} (hg : byG n g) (r : R w.heap D μ (.lst 1 n g) v) : (Extern.Bytes.bytesOf v).run P w = .ok ⟨(prB (zgg n g)).toArray⟩ w := by
 cases r with
 | lst0 _ _ a cap hn =>
   cases a with
   | none => simp [Extern.Bytes.bytesOf, zgg, prB]; rfl
   | some a => simp [Extern.Bytes.bytesOf, Extern.Bytes.loadBytes, zgg, prB]; rfl
 | lst _ _ _ b o cap vs hD hc hv h1 hr =>
   have hl := Lib.run_loadBytesX (P := P) w (zgg n g) ⟨b, o, none⟩ .empty (fun j x hj => by
     have hjl : j < n := by
       have := (List.getElem?_eq_some_iff.1 hj).1
       simpa [zgg] using this
     have e : (⟨b, o, none⟩ : Addr).add j = ⟨b, o + j, none⟩ := by unfold Addr.add; split <;> simp_all
     have h2 := hv j 0 hjl (by omega)
     have h3 := hr j 0 hjl (by omega)
     obtain ⟨y, hy⟩ := hg j hjl
     rw [hy] at h3
     generalize vs j 0 = z at h2 h3
     have hx : x = y := by
       have : (zgg n g)[j]? = some y := by simp [zgg, hjl, hy, AV.toI]
       rw [this] at hj
       cases hj; rfl
     rw [e, zhf]
     show hcell w.heap b (o + j) = _
     rw [show o + j = o + j * 1 + 0 by omega, h2]
     cases h3
     rw [hx])
   rw [show (zgg n g).length = n by simp [zgg]] at hl
   show (Extern.Bytes.loadBytes ⟨b, o, none⟩ n .empty).run P w = _
   rw [hl]
   congr 1
   apply ByteArray.ext
   show (#[] : Array UInt8) ++ (Lib.bytesOf (zgg n g)).toArray = (prB (zgg n g)).toArray
   simp [Lib.bytesOf, prB]
def yjp (L : zaa) : zcl := (62, fun xs => match xs with
 | [.lst 1 n g, .lst 1 m k] => some (L2 L byG n g /\ L2 L byG m k, .int .i64 (L2 L bcI (L2 L zgg n g) (L2 L zgg m k)))
 | _ => none)
theorem yjq : zcs Tryz.prog (yjp std) := by
 intro xs p r h hp
 dsimp only [yjp] at h
 split at h
 rotate_left
 · cases h
 rename_i n g m k
 cases h
 obtain ⟨hg, hk⟩ := hp
 have h1 : Tryz.prog.funcs[62]? = some Tryz.f62 := rfl
 have h2 : (Tryz.f62.name == "runtime.NumGoroutine") = false := by kernel_rfl
 have h3 : Tryz.f62.body.isNone = true := by kernel_rfl
 have h4 : Extern.findNext Tryz.f62 = none := by kernel_rfl
 have h5 : Extern.find Tryz.f62 = some Extern.BytealgCompare.compare := by kernel_rfl
 intro D w vs hD hxs hgo
 obtain ⟨v, u, hv⟩ : ∃ v u, vs.toList = [v, u] := by
   have hl : vs.toList.length = 2 := by simpa using hxs.1.symm
   match vs.toList, hl with
   | [a, b], _ => exact ⟨a, b, rfl⟩
 have : vs = #[v, u] := by rw [<- Array.toArray_toList (xs := vs), hv]
 subst this
 have r1 : R w.heap D zaz (.lst 1 n g) v := hxs.2 0 _ v rfl rfl
 have r2 : R w.heap D zaz (.lst 1 m k) u := hxs.2 1 _ u rfl rfl
 have key : (Extern.BytealgCompare.compare #[v, u]).run Tryz.prog w = .ok (.int .i64 (bcI (zgg n g) (zgg m k))) w := by
   change Sem.run Tryz.prog (do pure (goInt (Extern.BytealgCompare.cmp (<- Extern.Bytes.bytesOf v) (<- Extern.Bytes.bytesOf u)))) w = _
   simp only [Sem.run_bind, yf8 hg r1, yf8 hk r2, Sem.run_pure, Result.andThen]
   rw [Lib.cmp_eq]; rfl
 unfold zdv
 rw [show (yjp std).fst = 62 from rfl, run_callFunc_extern h1 h2 h3 h4 h5, key]
 exact ⟨_, D, rfl, Below.refl _ _, fun _ h => h, fun b hb => .inl hb, .int _ _⟩
def yx4 (L : zaa) : zcl := (45, fun xs => match xs with
 | [.lst 1 n g, .lst 1 m k] => some (L2 L byG n g /\ L2 L byG m k, .int .i64 (L2 L bcI (L2 L zgg n g) (L2 L zgg m k)))
 | _ => none)
theorem ypp : zcs Tryz.prog (yx4 std) := by
 intro xs p r h hp
 dsimp only [yx4] at h
 split at h
 rotate_left
 · cases h
 rename_i n g m k
 cases h
 refine zab (T := tt) (S := fun L => zbi [yjp L]) (lo := noA) (lb := noA) 5 (fn := Tryz.f45) rfl rfl (by kernel_rfl) (by kernel_rfl) rfl zah (za9 ⟨yjq, trivial⟩) (by kernel_rfl) ?_
 (intro L P1 Q1 hL hP hQ; cbv; subst hL; simp only [L2, L3, std, syT]; subst hQ)
 (simp only [syS, reduceCtorEq, Int.reduceToNat, Int.reduceAdd, Int.reduceSub])
 exact ⟨hp, rfl⟩
def za0 (p : Pr) (j : Nat) : Int := za7 p.1 j
def prZ : Pr := ⟨[0, 0, 0, 0, 0, 0, 0, 0, 0, 0, 0, 0, 0, 0, 0, 0], rfl⟩
def prC (L : zaa) (p : Pr) (j : Nat) : AV := .int .u8 (L2 L za0 p j)
def yh8 (c : Nat -> AV) : Pr := ⟨(List.range 16).map fun j => (c j).toI, by simp⟩
def prV : Vw Pr := ⟨16, prC, yh8, fun c => ∀ j, j < 16 -> isI .u8 (c j), prZ⟩
def leC (L : zaa) (x : Le) (j : Nat) : AV := match zbo j 16 with
 | true => .int .u8 (L2 L za0 (L Le.p x) j)
 | false => match zav j 16 with
   | true => .int .i64 (L Le.d x)
   | false => .bool (L Le.h x)
def toB (x : AV) : Bool := match x with | .bool b => b | _ => false
def isB (x : AV) : Prop := ∃ b, x = .bool b
def leV : Vw Le := ⟨18, leC, fun c => ⟨yh8 c, (c 16).toI, toB (c 17)⟩, fun c => (∀ j, j < 16 -> isI .u8 (c j)) /\ isI .i64 (c 16) /\ isB (c 17), ⟨prZ, 0, false⟩⟩
theorem zsy {c : Nat -> AV} {j : Nat} (hj : j < 16) : za0 (yh8 c) j = (c j).toI := by
 unfold za0 yh8 za7
 simp [List.getD_eq_getElem?_getD, hj]
theorem zqj {c : Nat -> AV} {x : Pr} (h : ∀ j, j < 16 -> c j = .int .u8 (za0 x j)) : yh8 c = x := by
 apply Subtype.ext
 apply List.ext_getElem
 · rw [(yh8 c).2, x.2]
 · intro i h1 h2
   have hi : i < 16 := by rw [x.2] at h2; exact h2
   have e := zsy (c := c) hi
   rw [h i hi] at e
   unfold za0 za7 at e
   simp only [List.getD_eq_getElem?_getD, List.getElem?_eq_getElem h1, List.getElem?_eq_getElem h2, Option.getD_some, AV.toI] at e
   exact e
theorem zlq : zzl prV := by
 refine ⟨fun c hc j hj h D μ v r => ?_, fun c x hx => ⟨fun j hj => ⟨_, hx j hj⟩, zqj hx⟩⟩
 show R h D μ (.int .u8 (za0 (yh8 c) j)) v
 rw [zsy hj]
 exact yo1 (hc j hj) r
theorem yd3 (x : Le) {j : Nat} (h : j < 16) : leC std x j = .int .u8 (za0 x.p j) := by
 unfold leC
 rw [zms h]; rfl
theorem zec : zzl leV := by
 refine ⟨fun c hc j hj h D μ v r => ?_, fun c x hx => ?_⟩
 · obtain ⟨h0, h1, h2⟩ := hc
   by_cases hlt : j < 16
   · show R h D μ (leC std _ j) v
     rw [yd3 _ hlt]
     show R h D μ (.int .u8 (za0 (yh8 c) j)) v
     rw [zsy hlt]
     exact yo1 (h0 j hlt) r
   · have hj : j < 18 := hj
     have : j = 16 \/ j = 17 := by omega
     rcases this with rfl | rfl
     · exact yo1 h1 r
     · obtain ⟨b, hb⟩ := h2
       rw [hb] at r
       show R h D μ (.bool (toB (c 17))) v
       rw [hb]; exact r
 · have hp : ∀ j, j < 16 -> c j = .int .u8 (za0 x.p j) := fun j hj => by rw [hx j (by show j < 18; omega)]; exact yd3 x hj
   have e16 := hx 16 (by decide)
   have e17 := hx 17 (by decide)
   refine ⟨⟨fun j hj => ⟨_, hp j hj⟩, ⟨_, e16⟩, ⟨_, e17⟩⟩, ?_⟩
   show Le.mk (yh8 c) (c 16).toI (toB (c 17)) = x
   rw [zqj hp, e16, e17]; rfl
def zak (l : List Le) (i : Nat) : Le := zzg leV l i
def zci (L : zaa) (l : List Le) : AV := .lst 18 (L zkn l) (fun i => leC L (L (L zak l) i))
def zi6 (x : AV) : Prop := okW leV x
def zan (x : AV) : List Le := rdW leV x
def zt6 (x : AV) : Prop := okG leV x
def zgd (x : AV) : Le := rdG leV x
def zkl (x : AV) : Prop := okG prV x
def zbl (x : AV) : Pr := rdG prV x
theorem yvi (l : List Le) : zan (.lst 18 (zkn l) fun i => leC std (zak l i)) = l := (ybl zec l).2
theorem yvu (l : List Le) : zi6 (.lst 18 (zkn l) fun i => leC std (zak l i)) := (ybl zec l).1
theorem zd2 {l : List Le} {i : Nat} (h : i < l.length) : zak l i = l[i] := zi7 (V := leV) h
def zsz (L : zaa) (p : Pr) : AV := .agg [.int .u8 (L2 L za0 p 0), .int .u8 (L2 L za0 p 1), .int .u8 (L2 L za0 p 2), .int .u8 (L2 L za0 p 3), .int .u8 (L2 L za0 p 4), .int .u8 (L2 L za0 p 5), .int .u8 (L2 L za0 p 6), .int .u8 (L2 L za0 p 7), .int .u8 (L2 L za0 p 8), .int .u8 (L2 L za0 p 9), .int .u8 (L2 L za0 p 10), .int .u8 (L2 L za0 p 11), .int .u8 (L2 L za0 p 12), .int .u8 (L2 L za0 p 13), .int .u8 (L2 L za0 p 14), .int .u8 (L2 L za0 p 15)]
def leA (L : zaa) (x : Le) : AV := .agg [.int .u8 (L2 L za0 (L Le.p x) 0), .int .u8 (L2 L za0 (L Le.p x) 1), .int .u8 (L2 L za0 (L Le.p x) 2), .int .u8 (L2 L za0 (L Le.p x) 3), .int .u8 (L2 L za0 (L Le.p x) 4), .int .u8 (L2 L za0 (L Le.p x) 5), .int .u8 (L2 L za0 (L Le.p x) 6), .int .u8 (L2 L za0 (L Le.p x) 7), .int .u8 (L2 L za0 (L Le.p x) 8), .int .u8 (L2 L za0 (L Le.p x) 9), .int .u8 (L2 L za0 (L Le.p x) 10), .int .u8 (L2 L za0 (L Le.p x) 11), .int .u8 (L2 L za0 (L Le.p x) 12), .int .u8 (L2 L za0 (L Le.p x) 13), .int .u8 (L2 L za0 (L Le.p x) 14), .int .u8 (L2 L za0 (L Le.p x) 15), .int .i64 (L Le.d x), .bool (L Le.h x)]
theorem zos (p : Pr) : [za0 p 0, za0 p 1, za0 p 2, za0 p 3, za0 p 4, za0 p 5, za0 p 6, za0 p 7, za0 p 8, za0 p 9, za0 p 10, za0 p 11, za0 p 12, za0 p 13, za0 p 14, za0 p 15] = p.1 := by
 obtain ⟨l, hl⟩ := p
 match l, hl with
 | [a0, a1, a2, a3, a4, a5, a6, a7, a8, a9, a10, a11, a12, a13, a14, a15], _ => rfl
theorem zjq (p : Pr) : AV.agg ((List.range prV.sz).map (prV.cell std p)) = zsz std p := rfl
theorem yd4 (x : Le) : AV.agg ((List.range leV.sz).map (leV.cell std x)) = leA std x := rfl
theorem ybj (p : Pr) : zkl (zsz std p) /\ zbl (zsz std p) = p := gK zlq p _ rfl
theorem yh7 (x : Le) : zt6 (leA std x) /\ zgd (leA std x) = x := gK zec x _ rfl
theorem yvd {h : Array Obj} {D : Nat -> Prop} {x y y' : AV} {xs : List AV} {vs : Array Value} (k : ∀ v, R h D zaz y v -> R h D zaz y' v) (hr : RL h D zaz (x :: y :: xs) vs) : RL h D zaz (x :: y' :: xs) vs := by
 refine ⟨hr.1, fun i z v hz hv => ?_⟩
 match i, hz with
 | 0, hz => exact hr.2 0 z v hz hv
 | 1, hz => cases hz; exact k v (hr.2 1 y v rfl hv)
 | i + 2, hz => exact hr.2 (i + 2) z v hz hv
theorem zza {α : Type} {V : Vw α} (K : zzl V) {P : Program} {f : FuncId} {y x r : AV} {q : List AV} (ho : okG V x) (h : zaf P f (y :: .agg ((List.range V.sz).map (V.cell std (rdG V x))) :: q) r) : zaf P f (y :: x :: q) r :=
 zji (fun h D vs hr => yvd (fun v => G_R K ho) hr) h
def zqm (p q : Pr) : Int := if prN p < prN q then -1 else if prN q < prN p then 1 else 0
def yte (p q : Pr) : Prop := zi0 p /\ zi0 q
def ynn (L : zaa) : zcl := (44, fun xs => match xs with
 | [x, q] => some (L zt6 x /\ L zkl q /\ L2 L yte (L Le.p (L zgd x)) (L zbl q), .int .i64 (L2 L zqm (L Le.p (L zgd x)) (L zbl q)))
 | _ => none)
theorem yih : zcs Tryz.prog (ynn std) := by
 intro xs p r h hp
 dsimp only [ynn] at h |-
 split at h <;> cases h
 try simp only [L2, L3, std] at hp |-
 rename_i x q
 obtain ⟨o1, o2, o3⟩ := hp
 refine yx8 zec o1 (zza zlq o2 ?_)
 rw [zjq, yd4]
 have o3 : yte (zgd x).p (zbl q) := o3
 show zaf _ _ [leA std (zgd x), zsz std (zbl q)] (.int .i64 (zqm (zgd x).p (zbl q)))
 generalize zgd x = e at o3 |-
 generalize zbl q = p at o3 |-
 refine zau (T := tt) (S := fun L => zbi [yx4 L]) (lo := noA) (lb := noA) 5 (fn := Tryz.f44) (xs := fun L => [leA L e, zsz L p]) rfl rfl (by kernel_rfl) (by kernel_rfl) rfl zah (za9 ⟨ypp, trivial⟩) (by kernel_rfl) ?_
 intro L P' Q' hL hP hQ
 have hc := yeh (p := e.p.1) (q := p.1) (by rw [e.p.2, p.2]) o3.1 o3.2
 (cbv; try simp only [syT, true_and, and_true])
 (subst hL; subst hQ; simp only [L2, L3, std] at *; try simp only [syS, reduceCtorEq, Int.reduceToNat, Int.reduceAdd, Int.reduceSub] at *)
 refine ⟨⟨fun i _ => ⟨_, rfl⟩, fun i _ => ⟨_, rfl⟩⟩, ?_⟩
 rw [show (zgg 16 fun i x => AV.int IntKind.u8 (za7 [za0 e.p 0, za0 e.p 1, za0 e.p 2, za0 e.p 3, za0 e.p 4, za0 e.p 5, za0 e.p 6, za0 e.p 7, za0 e.p 8, za0 e.p 9, za0 e.p 10, za0 e.p 11, za0 e.p 12, za0 e.p 13, za0 e.p 14, za0 e.p 15] i)) = e.p.1 from zos e.p,
   show (zgg 16 fun i x => AV.int IntKind.u8 (za7 [za0 p 0, za0 p 1, za0 p 2, za0 p 3, za0 p 4, za0 p 5, za0 p 6, za0 p 7, za0 p 8, za0 p 9, za0 p 10, za0 p 11, za0 p 12, za0 p 13, za0 p 14, za0 p 15] i)) = p.1 from zos p]
 exact hc
def yvn (y z : Pr) : Bool := decide (y = z)
theorem ymq (y z : Pr) : (and (ieq (za0 y 0) (za0 z 0)) (and (ieq (za0 y 1) (za0 z 1)) (and (ieq (za0 y 2) (za0 z 2)) (and (ieq (za0 y 3) (za0 z 3)) (and (ieq (za0 y 4) (za0 z 4)) (and (ieq (za0 y 5) (za0 z 5)) (and (ieq (za0 y 6) (za0 z 6)) (and (ieq (za0 y 7) (za0 z 7)) (and (ieq (za0 y 8) (za0 z 8)) (and (ieq (za0 y 9) (za0 z 9)) (and (ieq (za0 y 10) (za0 z 10)) (and (ieq (za0 y 11) (za0 z 11)) (and (ieq (za0 y 12) (za0 z 12)) (and (ieq (za0 y 13) (za0 z 13)) (and (ieq (za0 y 14) (za0 z 14)) (and (ieq (za0 y 15) (za0 z 15)) (true))))))))))))))))) = decide (y = z) := by
 have key : ((List.range 16).all fun j => ieq (za0 y j) (za0 z j)) = decide (y = z) := by
   by_cases h : y = z
   · rw [decide_eq_true h, List.all_eq_true]
     intro j _
     rw [ydo, h]
   · rw [decide_eq_false h, List.all_eq_false]
     refine Classical.byContradiction fun hc => h ?_
     apply Subtype.ext
     apply List.ext_getElem
     · rw [y.2, z.2]
     · intro i h1 h2
       have hi : i < 16 := by rw [y.2] at h1; exact h1
       have h3 : ieq (za0 y i) (za0 z i) = true := Classical.byContradiction fun h4 => hc ⟨i, List.mem_range.2 hi, h4⟩
       rw [ydo] at h3
       unfold za0 za7 at h3
       simpa [List.getD_eq_getElem?_getD, List.getElem?_eq_getElem h1, List.getElem?_eq_getElem h2] using h3
 rw [<- key]
 rfl
def zg4 (L : zaa) : Prop :=
 (∀ (y : Pr) (d : Int) (h : Bool), L zgd (.agg [.int .u8 (L (L za0 y) 0), .int .u8 (L (L za0 y) 1), .int .u8 (L (L za0 y) 2), .int .u8 (L (L za0 y) 3), .int .u8 (L (L za0 y) 4), .int .u8 (L (L za0 y) 5), .int .u8 (L (L za0 y) 6), .int .u8 (L (L za0 y) 7), .int .u8 (L (L za0 y) 8), .int .u8 (L (L za0 y) 9), .int .u8 (L (L za0 y) 10), .int .u8 (L (L za0 y) 11), .int .u8 (L (L za0 y) 12), .int .u8 (L (L za0 y) 13), .int .u8 (L (L za0 y) 14), .int .u8 (L (L za0 y) 15), .int .i64 d, .bool h]) = L (L (L Le.mk y) d) h) /\
 (∀ (y : Pr) (d : Int) (h : Bool), (L zt6 (.agg [.int .u8 (L (L za0 y) 0), .int .u8 (L (L za0 y) 1), .int .u8 (L (L za0 y) 2), .int .u8 (L (L za0 y) 3), .int .u8 (L (L za0 y) 4), .int .u8 (L (L za0 y) 5), .int .u8 (L (L za0 y) 6), .int .u8 (L (L za0 y) 7), .int .u8 (L (L za0 y) 8), .int .u8 (L (L za0 y) 9), .int .u8 (L (L za0 y) 10), .int .u8 (L (L za0 y) 11), .int .u8 (L (L za0 y) 12), .int .u8 (L (L za0 y) 13), .int .u8 (L (L za0 y) 14), .int .u8 (L (L za0 y) 15), .int .i64 d, .bool h])) = True) /\
 (∀ (y : Pr) (d : Int) (h : Bool), L zgd (.agg [.int .u8 (L (L za7 [L (L za0 y) 0, L (L za0 y) 1, L (L za0 y) 2, L (L za0 y) 3, L (L za0 y) 4, L (L za0 y) 5, L (L za0 y) 6, L (L za0 y) 7, L (L za0 y) 8, L (L za0 y) 9, L (L za0 y) 10, L (L za0 y) 11, L (L za0 y) 12, L (L za0 y) 13, L (L za0 y) 14, L (L za0 y) 15]) 0), .int .u8 (L (L za7 [L (L za0 y) 0, L (L za0 y) 1, L (L za0 y) 2, L (L za0 y) 3, L (L za0 y) 4, L (L za0 y) 5, L (L za0 y) 6, L (L za0 y) 7, L (L za0 y) 8, L (L za0 y) 9, L (L za0 y) 10, L (L za0 y) 11, L (L za0 y) 12, L (L za0 y) 13, L (L za0 y) 14, L (L za0 y) 15]) 1), .int .u8 (L (L za7 [L (L za0 y) 0, L (L za0 y) 1, L (L za0 y) 2, L (L za0 y) 3, L (L za0 y) 4, L (L za0 y) 5, L (L za0 y) 6, L (L za0 y) 7, L (L za0 y) 8, L (L za0 y) 9, L (L za0 y) 10, L (L za0 y) 11, L (L za0 y) 12, L (L za0 y) 13, L (L za0 y) 14, L (L za0 y) 15]) 2), .int .u8 (L (L za7 [L (L za0 y) 0, L (L za0 y) 1, L (L za0 y) 2, L (L za0 y) 3, L (L za0 y) 4, L (L za0 y) 5, L (L za0 y) 6, L (L za0 y) 7, L (L za0 y) 8, L (L za0 y) 9, L (L za0 y) 10, L (L za0 y) 11, L (L za0 y) 12, L (L za0 y) 13, L (L za0 y) 14, L (L za0 y) 15]) 3), .int .u8 (L (L za7 [L (L za0 y) 0, L (L za0 y) 1, L (L za0 y) 2, L (L za0 y) 3, L (L za0 y) 4, L (L za0 y) 5, L (L za0 y) 6, L (L za0 y) 7, L (L za0 y) 8, L (L za0 y) 9, L (L za0 y) 10, L (L za0 y) 11, L (L za0 y) 12, L (L za0 y) 13, L (L za0 y) 14, L (L za0 y) 15]) 4), .int .u8 (L (L za7 [L (L za0 y) 0, L (L za0 y) 1, L (L za0 y) 2, L (L za0 y) 3, L (L za0 y) 4, L (L za0 y) 5, L (L za0 y) 6, L (L za0 y) 7, L (L za0 y) 8, L (L za0 y) 9, L (L za0 y) 10, L (L za0 y) 11, L (L za0 y) 12, L (L za0 y) 13, L (L za0 y) 14, L (L za0 y) 15]) 5), .int .u8 (L (L za7 [L (L za0 y) 0, L (L za0 y) 1, L (L za0 y) 2, L (L za0 y) 3, L (L za0 y) 4, L (L za0 y) 5, L (L za0 y) 6, L (L za0 y) 7, L (L za0 y) 8, L (L za0 y) 9, L (L za0 y) 10, L (L za0 y) 11, L (L za0 y) 12, L (L za0 y) 13, L (L za0 y) 14, L (L za0 y) 15]) 6), .int .u8 (L (L za7 [L (L za0 y) 0, L (L za0 y) 1, L (L za0 y) 2, L (L za0 y) 3, L (L za0 y) 4, L (L za0 y) 5, L (L za0 y) 6, L (L za0 y) 7, L (L za0 y) 8, L (L za0 y) 9, L (L za0 y) 10, L (L za0 y) 11, L (L za0 y) 12, L (L za0 y) 13, L (L za0 y) 14, L (L za0 y) 15]) 7), .int .u8 (L (L za7 [L (L za0 y) 0, L (L za0 y) 1, L (L za0 y) 2, L (L za0 y) 3, L (L za0 y) 4, L (L za0 y) 5, L (L za0 y) 6, L (L za0 y) 7, L (L za0 y) 8, L (L za0 y) 9, L (L za0 y) 10, L (L za0 y) 11, L (L za0 y) 12, L (L za0 y) 13, L (L za0 y) 14, L (L za0 y) 15]) 8), .int .u8 (L (L za7 [L (L za0 y) 0, L (L za0 y) 1, L (L za0 y) 2, L (L za0 y) 3, L (L za0 y) 4, L (L za0 y) 5, L (L za0 y) 6, L (L za0 y) 7, L (L za0 y) 8, L (L za0 y) 9, L (L za0 y) 10, L (L za0 y) 11, L (L za0 y) 12, L (L za0 y) 13, L (L za0 y) 14, L (L za0 y) 15]) 9), .int .u8 (L (L za7 [L (L za0 y) 0, L (L za0 y) 1, L (L za0 y) 2, L (L za0 y) 3, L (L za0 y) 4, L (L za0 y) 5, L (L za0 y) 6, L (L za0 y) 7, L (L za0 y) 8, L (L za0 y) 9, L (L za0 y) 10, L (L za0 y) 11, L (L za0 y) 12, L (L za0 y) 13, L (L za0 y) 14, L (L za0 y) 15]) 10), .int .u8 (L (L za7 [L (L za0 y) 0, L (L za0 y) 1, L (L za0 y) 2, L (L za0 y) 3, L (L za0 y) 4, L (L za0 y) 5, L (L za0 y) 6, L (L za0 y) 7, L (L za0 y) 8, L (L za0 y) 9, L (L za0 y) 10, L (L za0 y) 11, L (L za0 y) 12, L (L za0 y) 13, L (L za0 y) 14, L (L za0 y) 15]) 11), .int .u8 (L (L za7 [L (L za0 y) 0, L (L za0 y) 1, L (L za0 y) 2, L (L za0 y) 3, L (L za0 y) 4, L (L za0 y) 5, L (L za0 y) 6, L (L za0 y) 7, L (L za0 y) 8, L (L za0 y) 9, L (L za0 y) 10, L (L za0 y) 11, L (L za0 y) 12, L (L za0 y) 13, L (L za0 y) 14, L (L za0 y) 15]) 12), .int .u8 (L (L za7 [L (L za0 y) 0, L (L za0 y) 1, L (L za0 y) 2, L (L za0 y) 3, L (L za0 y) 4, L (L za0 y) 5, L (L za0 y) 6, L (L za0 y) 7, L (L za0 y) 8, L (L za0 y) 9, L (L za0 y) 10, L (L za0 y) 11, L (L za0 y) 12, L (L za0 y) 13, L (L za0 y) 14, L (L za0 y) 15]) 13), .int .u8 (L (L za7 [L (L za0 y) 0, L (L za0 y) 1, L (L za0 y) 2, L (L za0 y) 3, L (L za0 y) 4, L (L za0 y) 5, L (L za0 y) 6, L (L za0 y) 7, L (L za0 y) 8, L (L za0 y) 9, L (L za0 y) 10, L (L za0 y) 11, L (L za0 y) 12, L (L za0 y) 13, L (L za0 y) 14, L (L za0 y) 15]) 14), .int .u8 (L (L za7 [L (L za0 y) 0, L (L za0 y) 1, L (L za0 y) 2, L (L za0 y) 3, L (L za0 y) 4, L (L za0 y) 5, L (L za0 y) 6, L (L za0 y) 7, L (L za0 y) 8, L (L za0 y) 9, L (L za0 y) 10, L (L za0 y) 11, L (L za0 y) 12, L (L za0 y) 13, L (L za0 y) 14, L (L za0 y) 15]) 15), .int .i64 d, .bool h]) = L (L (L Le.mk y) d) h) /\
 (∀ (y : Pr) (d : Int) (h : Bool), (L zt6 (.agg [.int .u8 (L (L za7 [L (L za0 y) 0, L (L za0 y) 1, L (L za0 y) 2, L (L za0 y) 3, L (L za0 y) 4, L (L za0 y) 5, L (L za0 y) 6, L (L za0 y) 7, L (L za0 y) 8, L (L za0 y) 9, L (L za0 y) 10, L (L za0 y) 11, L (L za0 y) 12, L (L za0 y) 13, L (L za0 y) 14, L (L za0 y) 15]) 0), .int .u8 (L (L za7 [L (L za0 y) 0, L (L za0 y) 1, L (L za0 y) 2, L (L za0 y) 3, L (L za0 y) 4, L (L za0 y) 5, L (L za0 y) 6, L (L za0 y) 7, L (L za0 y) 8, L (L za0 y) 9, L (L za0 y) 10, L (L za0 y) 11, L (L za0 y) 12, L (L za0 y) 13, L (L za0 y) 14, L (L za0 y) 15]) 1), .int .u8 (L (L za7 [L (L za0 y) 0, L (L za0 y) 1, L (L za0 y) 2, L (L za0 y) 3, L (L za0 y) 4, L (L za0 y) 5, L (L za0 y) 6, L (L za0 y) 7, L (L za0 y) 8, L (L za0 y) 9, L (L za0 y) 10, L (L za0 y) 11, L (L za0 y) 12, L (L za0 y) 13, L (L za0 y) 14, L (L za0 y) 15]) 2), .int .u8 (L (L za7 [L (L za0 y) 0, L (L za0 y) 1, L (L za0 y) 2, L (L za0 y) 3, L (L za0 y) 4, L (L za0 y) 5, L (L za0 y) 6, L (L za0 y) 7, L (L za0 y) 8, L (L za0 y) 9, L (L za0 y) 10, L (L za0 y) 11, L (L za0 y) 12, L (L za0 y) 13, L (L za0 y) 14, L (L za0 y) 15]) 3), .int .u8 (L (L za7 [L (L za0 y) 0, L (L za0 y) 1, L (L za0 y) 2, L (L za0 y) 3, L (L za0 y) 4, L (L za0 y) 5, L (L za0 y) 6, L (L za0 y) 7, L (L za0 y) 8, L (L za0 y) 9, L (L za0 y) 10, L (L za0 y) 11, L (L za0 y) 12, L (L za0 y) 13, L (L za0 y) 14, L (L za0 y) 15]) 4), .int .u8 (L (L za7 [L (L za0 y) 0, L (L za0 y) 1, L (L za0 y) 2, L (L za0 y) 3, L (L za0 y) 4, L (L za0 y) 5, L (L za0 y) 6, L (L za0 y) 7, L (L za0 y) 8, L (L za0 y) 9, L (L za0 y) 10, L (L za0 y) 11, L (L za0 y) 12, L (L za0 y) 13, L (L za0 y) 14, L (L za0 y) 15]) 5), .int .u8 (L (L za7 [L (L za0 y) 0, L (L za0 y) 1, L (L za0 y) 2, L (L za0 y) 3, L (L za0 y) 4, L (L za0 y) 5, L (L za0 y) 6, L (L za0 y) 7, L (L za0 y) 8, L (L za0 y) 9, L (L za0 y) 10, L (L za0 y) 11, L (L za0 y) 12, L (L za0 y) 13, L (L za0 y) 14, L (L za0 y) 15]) 6), .int .u8 (L (L za7 [L (L za0 y) 0, L (L za0 y) 1, L (L za0 y) 2, L (L za0 y) 3, L (L za0 y) 4, L (L za0 y) 5, L (L za0 y) 6, L (L za0 y) 7, L (L za0 y) 8, L (L za0 y) 9, L (L za0 y) 10, L (L za0 y) 11, L (L za0 y) 12, L (L za0 y) 13, L (L za0 y) 14, L (L za0 y) 15]) 7), .int .u8 (L (L za7 [L (L za0 y) 0, L (L za0 y) 1, L (L za0 y) 2, L (L za0 y) 3, L (L za0 y) 4, L (L za0 y) 5, L (L za0 y) 6, L (L za0 y) 7, L (L za0 y) 8, L (L za0 y) 9, L (L za0 y) 10, L (L za0 y) 11, L (L za0 y) 12, L (L za0 y) 13, L (L za0 y) 14, L (L za0 y) 15]) 8), .int .u8 (L (L za7 [L (L za0 y) 0, L (L za0 y) 1, L (L za0 y) 2, L (L za0 y) 3, L (L za0 y) 4, L (L za0 y) 5, L (L za0 y) 6, L (L za0 y) 7, L (L za0 y) 8, L (L za0 y) 9, L (L za0 y) 10, L (L za0 y) 11, L (L za0 y) 12, L (L za0 y) 13, L (L za0 y) 14, L (L za0 y) 15]) 9), .int .u8 (L (L za7 [L (L za0 y) 0, L (L za0 y) 1, L (L za0 y) 2, L (L za0 y) 3, L (L za0 y) 4, L (L za0 y) 5, L (L za0 y) 6, L (L za0 y) 7, L (L za0 y) 8, L (L za0 y) 9, L (L za0 y) 10, L (L za0 y) 11, L (L za0 y) 12, L (L za0 y) 13, L (L za0 y) 14, L (L za0 y) 15]) 10), .int .u8 (L (L za7 [L (L za0 y) 0, L (L za0 y) 1, L (L za0 y) 2, L (L za0 y) 3, L (L za0 y) 4, L (L za0 y) 5, L (L za0 y) 6, L (L za0 y) 7, L (L za0 y) 8, L (L za0 y) 9, L (L za0 y) 10, L (L za0 y) 11, L (L za0 y) 12, L (L za0 y) 13, L (L za0 y) 14, L (L za0 y) 15]) 11), .int .u8 (L (L za7 [L (L za0 y) 0, L (L za0 y) 1, L (L za0 y) 2, L (L za0 y) 3, L (L za0 y) 4, L (L za0 y) 5, L (L za0 y) 6, L (L za0 y) 7, L (L za0 y) 8, L (L za0 y) 9, L (L za0 y) 10, L (L za0 y) 11, L (L za0 y) 12, L (L za0 y) 13, L (L za0 y) 14, L (L za0 y) 15]) 12), .int .u8 (L (L za7 [L (L za0 y) 0, L (L za0 y) 1, L (L za0 y) 2, L (L za0 y) 3, L (L za0 y) 4, L (L za0 y) 5, L (L za0 y) 6, L (L za0 y) 7, L (L za0 y) 8, L (L za0 y) 9, L (L za0 y) 10, L (L za0 y) 11, L (L za0 y) 12, L (L za0 y) 13, L (L za0 y) 14, L (L za0 y) 15]) 13), .int .u8 (L (L za7 [L (L za0 y) 0, L (L za0 y) 1, L (L za0 y) 2, L (L za0 y) 3, L (L za0 y) 4, L (L za0 y) 5, L (L za0 y) 6, L (L za0 y) 7, L (L za0 y) 8, L (L za0 y) 9, L (L za0 y) 10, L (L za0 y) 11, L (L za0 y) 12, L (L za0 y) 13, L (L za0 y) 14, L (L za0 y) 15]) 14), .int .u8 (L (L za7 [L (L za0 y) 0, L (L za0 y) 1, L (L za0 y) 2, L (L za0 y) 3, L (L za0 y) 4, L (L za0 y) 5, L (L za0 y) 6, L (L za0 y) 7, L (L za0 y) 8, L (L za0 y) 9, L (L za0 y) 10, L (L za0 y) 11, L (L za0 y) 12, L (L za0 y) 13, L (L za0 y) 14, L (L za0 y) 15]) 15), .int .i64 d, .bool h])) = True) /\
 (∀ y : Le, L (L (L Le.mk (L Le.p y)) (L Le.d y)) (L Le.h y) = y) /\
 (∀ y z : Pr, (L (L and (L (L ieq (L (L za0 y) 0)) (L (L za0 z) 0))) (L (L and (L (L ieq (L (L za0 y) 1)) (L (L za0 z) 1))) (L (L and (L (L ieq (L (L za0 y) 2)) (L (L za0 z) 2))) (L (L and (L (L ieq (L (L za0 y) 3)) (L (L za0 z) 3))) (L (L and (L (L ieq (L (L za0 y) 4)) (L (L za0 z) 4))) (L (L and (L (L ieq (L (L za0 y) 5)) (L (L za0 z) 5))) (L (L and (L (L ieq (L (L za0 y) 6)) (L (L za0 z) 6))) (L (L and (L (L ieq (L (L za0 y) 7)) (L (L za0 z) 7))) (L (L and (L (L ieq (L (L za0 y) 8)) (L (L za0 z) 8))) (L (L and (L (L ieq (L (L za0 y) 9)) (L (L za0 z) 9))) (L (L and (L (L ieq (L (L za0 y) 10)) (L (L za0 z) 10))) (L (L and (L (L ieq (L (L za0 y) 11)) (L (L za0 z) 11))) (L (L and (L (L ieq (L (L za0 y) 12)) (L (L za0 z) 12))) (L (L and (L (L ieq (L (L za0 y) 13)) (L (L za0 z) 13))) (L (L and (L (L ieq (L (L za0 y) 14)) (L (L za0 z) 14))) (L (L and (L (L ieq (L (L za0 y) 15)) (L (L za0 z) 15))) (true))))))))))))))))) = L (L yvn y) z) /\
 (∀ (y : Pr) (d : Int) (h : Bool), L Le.p (L (L (L Le.mk y) d) h) = y) /\
 (∀ y : Pr, L zbl (.agg [.int .u8 (L (L za0 y) 0), .int .u8 (L (L za0 y) 1), .int .u8 (L (L za0 y) 2), .int .u8 (L (L za0 y) 3), .int .u8 (L (L za0 y) 4), .int .u8 (L (L za0 y) 5), .int .u8 (L (L za0 y) 6), .int .u8 (L (L za0 y) 7), .int .u8 (L (L za0 y) 8), .int .u8 (L (L za0 y) 9), .int .u8 (L (L za0 y) 10), .int .u8 (L (L za0 y) 11), .int .u8 (L (L za0 y) 12), .int .u8 (L (L za0 y) 13), .int .u8 (L (L za0 y) 14), .int .u8 (L (L za0 y) 15)]) = y) /\
 (∀ y : Pr, (L zkl (.agg [.int .u8 (L (L za0 y) 0), .int .u8 (L (L za0 y) 1), .int .u8 (L (L za0 y) 2), .int .u8 (L (L za0 y) 3), .int .u8 (L (L za0 y) 4), .int .u8 (L (L za0 y) 5), .int .u8 (L (L za0 y) 6), .int .u8 (L (L za0 y) 7), .int .u8 (L (L za0 y) 8), .int .u8 (L (L za0 y) 9), .int .u8 (L (L za0 y) 10), .int .u8 (L (L za0 y) 11), .int .u8 (L (L za0 y) 12), .int .u8 (L (L za0 y) 13), .int .u8 (L (L za0 y) 14), .int .u8 (L (L za0 y) 15)])) = True) /\
 (∀ y : Pr, L zbl (.agg [.int .u8 (L (L za7 [L (L za0 y) 0, L (L za0 y) 1, L (L za0 y) 2, L (L za0 y) 3, L (L za0 y) 4, L (L za0 y) 5, L (L za0 y) 6, L (L za0 y) 7, L (L za0 y) 8, L (L za0 y) 9, L (L za0 y) 10, L (L za0 y) 11, L (L za0 y) 12, L (L za0 y) 13, L (L za0 y) 14, L (L za0 y) 15]) 0), .int .u8 (L (L za7 [L (L za0 y) 0, L (L za0 y) 1, L (L za0 y) 2, L (L za0 y) 3, L (L za0 y) 4, L (L za0 y) 5, L (L za0 y) 6, L (L za0 y) 7, L (L za0 y) 8, L (L za0 y) 9, L (L za0 y) 10, L (L za0 y) 11, L (L za0 y) 12, L (L za0 y) 13, L (L za0 y) 14, L (L za0 y) 15]) 1), .int .u8 (L (L za7 [L (L za0 y) 0, L (L za0 y) 1, L (L za0 y) 2, L (L za0 y) 3, L (L za0 y) 4, L (L za0 y) 5, L (L za0 y) 6, L (L za0 y) 7, L (L za0 y) 8, L (L za0 y) 9, L (L za0 y) 10, L (L za0 y) 11, L (L za0 y) 12, L (L za0 y) 13, L (L za0 y) 14, L (L za0 y) 15]) 2), .int .u8 (L (L za7 [L (L za0 y) 0, L (L za0 y) 1, L (L za0 y) 2, L (L za0 y) 3, L (L za0 y) 4, L (L za0 y) 5, L (L za0 y) 6, L (L za0 y) 7, L (L za0 y) 8, L (L za0 y) 9, L (L za0 y) 10, L (L za0 y) 11, L (L za0 y) 12, L (L za0 y) 13, L (L za0 y) 14, L (L za0 y) 15]) 3), .int .u8 (L (L za7 [L (L za0 y) 0, L (L za0 y) 1, L (L za0 y) 2, L (L za0 y) 3, L (L za0 y) 4, L (L za0 y) 5, L (L za0 y) 6, L (L za0 y) 7, L (L za0 y) 8, L (L za0 y) 9, L (L za0 y) 10, L (L za0 y) 11, L (L za0 y) 12, L (L za0 y) 13, L (L za0 y) 14, L (L za0 y) 15]) 4), .int .u8 (L (L za7 [L (L za0 y) 0, L (L za0 y) 1, L (L za0 y) 2, L (L za0 y) 3, L (L za0 y) 4, L (L za0 y) 5, L (L za0 y) 6, L (L za0 y) 7, L (L za0 y) 8, L (L za0 y) 9, L (L za0 y) 10, L (L za0 y) 11, L (L za0 y) 12, L (L za0 y) 13, L (L za0 y) 14, L (L za0 y) 15]) 5), .int .u8 (L (L za7 [L (L za0 y) 0, L (L za0 y) 1, L (L za0 y) 2, L (L za0 y) 3, L (L za0 y) 4, L (L za0 y) 5, L (L za0 y) 6, L (L za0 y) 7, L (L za0 y) 8, L (L za0 y) 9, L (L za0 y) 10, L (L za0 y) 11, L (L za0 y) 12, L (L za0 y) 13, L (L za0 y) 14, L (L za0 y) 15]) 6), .int .u8 (L (L za7 [L (L za0 y) 0, L (L za0 y) 1, L (L za0 y) 2, L (L za0 y) 3, L (L za0 y) 4, L (L za0 y) 5, L (L za0 y) 6, L (L za0 y) 7, L (L za0 y) 8, L (L za0 y) 9, L (L za0 y) 10, L (L za0 y) 11, L (L za0 y) 12, L (L za0 y) 13, L (L za0 y) 14, L (L za0 y) 15]) 7), .int .u8 (L (L za7 [L (L za0 y) 0, L (L za0 y) 1, L (L za0 y) 2, L (L za0 y) 3, L (L za0 y) 4, L (L za0 y) 5, L (L za0 y) 6, L (L za0 y) 7, L (L za0 y) 8, L (L za0 y) 9, L (L za0 y) 10, L (L za0 y) 11, L (L za0 y) 12, L (L za0 y) 13, L (L za0 y) 14, L (L za0 y) 15]) 8), .int .u8 (L (L za7 [L (L za0 y) 0, L (L za0 y) 1, L (L za0 y) 2, L (L za0 y) 3, L (L za0 y) 4, L (L za0 y) 5, L (L za0 y) 6, L (L za0 y) 7, L (L za0 y) 8, L (L za0 y) 9, L (L za0 y) 10, L (L za0 y) 11, L (L za0 y) 12, L (L za0 y) 13, L (L za0 y) 14, L (L za0 y) 15]) 9), .int .u8 (L (L za7 [L (L za0 y) 0, L (L za0 y) 1, L (L za0 y) 2, L (L za0 y) 3, L (L za0 y) 4, L (L za0 y) 5, L (L za0 y) 6, L (L za0 y) 7, L (L za0 y) 8, L (L za0 y) 9, L (L za0 y) 10, L (L za0 y) 11, L (L za0 y) 12, L (L za0 y) 13, L (L za0 y) 14, L (L za0 y) 15]) 10), .int .u8 (L (L za7 [L (L za0 y) 0, L (L za0 y) 1, L (L za0 y) 2, L (L za0 y) 3, L (L za0 y) 4, L (L za0 y) 5, L (L za0 y) 6, L (L za0 y) 7, L (L za0 y) 8, L (L za0 y) 9, L (L za0 y) 10, L (L za0 y) 11, L (L za0 y) 12, L (L za0 y) 13, L (L za0 y) 14, L (L za0 y) 15]) 11), .int .u8 (L (L za7 [L (L za0 y) 0, L (L za0 y) 1, L (L za0 y) 2, L (L za0 y) 3, L (L za0 y) 4, L (L za0 y) 5, L (L za0 y) 6, L (L za0 y) 7, L (L za0 y) 8, L (L za0 y) 9, L (L za0 y) 10, L (L za0 y) 11, L (L za0 y) 12, L (L za0 y) 13, L (L za0 y) 14, L (L za0 y) 15]) 12), .int .u8 (L (L za7 [L (L za0 y) 0, L (L za0 y) 1, L (L za0 y) 2, L (L za0 y) 3, L (L za0 y) 4, L (L za0 y) 5, L (L za0 y) 6, L (L za0 y) 7, L (L za0 y) 8, L (L za0 y) 9, L (L za0 y) 10, L (L za0 y) 11, L (L za0 y) 12, L (L za0 y) 13, L (L za0 y) 14, L (L za0 y) 15]) 13), .int .u8 (L (L za7 [L (L za0 y) 0, L (L za0 y) 1, L (L za0 y) 2, L (L za0 y) 3, L (L za0 y) 4, L (L za0 y) 5, L (L za0 y) 6, L (L za0 y) 7, L (L za0 y) 8, L (L za0 y) 9, L (L za0 y) 10, L (L za0 y) 11, L (L za0 y) 12, L (L za0 y) 13, L (L za0 y) 14, L (L za0 y) 15]) 14), .int .u8 (L (L za7 [L (L za0 y) 0, L (L za0 y) 1, L (L za0 y) 2, L (L za0 y) 3, L (L za0 y) 4, L (L za0 y) 5, L (L za0 y) 6, L (L za0 y) 7, L (L za0 y) 8, L (L za0 y) 9, L (L za0 y) 10, L (L za0 y) 11, L (L za0 y) 12, L (L za0 y) 13, L (L za0 y) 14, L (L za0 y) 15]) 15)]) = y) /\
 (∀ y : Pr, (L zkl (.agg [.int .u8 (L (L za7 [L (L za0 y) 0, L (L za0 y) 1, L (L za0 y) 2, L (L za0 y) 3, L (L za0 y) 4, L (L za0 y) 5, L (L za0 y) 6, L (L za0 y) 7, L (L za0 y) 8, L (L za0 y) 9, L (L za0 y) 10, L (L za0 y) 11, L (L za0 y) 12, L (L za0 y) 13, L (L za0 y) 14, L (L za0 y) 15]) 0), .int .u8 (L (L za7 [L (L za0 y) 0, L (L za0 y) 1, L (L za0 y) 2, L (L za0 y) 3, L (L za0 y) 4, L (L za0 y) 5, L (L za0 y) 6, L (L za0 y) 7, L (L za0 y) 8, L (L za0 y) 9, L (L za0 y) 10, L (L za0 y) 11, L (L za0 y) 12, L (L za0 y) 13, L (L za0 y) 14, L (L za0 y) 15]) 1), .int .u8 (L (L za7 [L (L za0 y) 0, L (L za0 y) 1, L (L za0 y) 2, L (L za0 y) 3, L (L za0 y) 4, L (L za0 y) 5, L (L za0 y) 6, L (L za0 y) 7, L (L za0 y) 8, L (L za0 y) 9, L (L za0 y) 10, L (L za0 y) 11, L (L za0 y) 12, L (L za0 y) 13, L (L za0 y) 14, L (L za0 y) 15]) 2), .int .u8 (L (L za7 [L (L za0 y) 0, L (L za0 y) 1, L (L za0 y) 2, L (L za0 y) 3, L (L za0 y) 4, L (L za0 y) 5, L (L za0 y) 6, L (L za0 y) 7, L (L za0 y) 8, L (L za0 y) 9, L (L za0 y) 10, L (L za0 y) 11, L (L za0 y) 12, L (L za0 y) 13, L (L za0 y) 14, L (L za0 y) 15]) 3), .int .u8 (L (L za7 [L (L za0 y) 0, L (L za0 y) 1, L (L za0 y) 2, L (L za0 y) 3, L (L za0 y) 4, L (L za0 y) 5, L (L za0 y) 6, L (L za0 y) 7, L (L za0 y) 8, L (L za0 y) 9, L (L za0 y) 10, L (L za0 y) 11, L (L za0 y) 12, L (L za0 y) 13, L (L za0 y) 14, L (L za0 y) 15]) 4), .int .u8 (L (L za7 [L (L za0 y) 0, L (L za0 y) 1, L (L za0 y) 2, L (L za0 y) 3, L (L za0 y) 4, L (L za0 y) 5, L (L za0 y) 6, L (L za0 y) 7, L (L za0 y) 8, L (L za0 y) 9, L (L za0 y) 10, L (L za0 y) 11, L (L za0 y) 12, L (L za0 y) 13, L (L za0 y) 14, L (L za0 y) 15]) 5), .int .u8 (L (L za7 [L (L za0 y) 0, L (L za0 y) 1, L (L za0 y) 2, L (L za0 y) 3, L (L za0 y) 4, L (L za0 y) 5, L (L za0 y) 6, L (L za0 y) 7, L (L za0 y) 8, L (L za0 y) 9, L (L za0 y) 10, L (L za0 y) 11, L (L za0 y) 12, L (L za0 y) 13, L (L za0 y) 14, L (L za0 y) 15]) 6), .int .u8 (L (L za7 [L (L za0 y) 0, L (L za0 y) 1, L (L za0 y) 2, L (L za0 y) 3, L (L za0 y) 4, L (L za0 y) 5, L (L za0 y) 6, L (L za0 y) 7, L (L za0 y) 8, L (L za0 y) 9, L (L za0 y) 10, L (L za0 y) 11, L (L za0 y) 12, L (L za0 y) 13, L (L za0 y) 14, L (L za0 y) 15]) 7), .int .u8 (L (L za7 [L (L za0 y) 0, L (L za0 y) 1, L (L za0 y) 2, L (L za0 y) 3, L (L za0 y) 4, L (L za0 y) 5, L (L za0 y) 6, L (L za0 y) 7, L (L za0 y) 8, L (L za0 y) 9, L (L za0 y) 10, L (L za0 y) 11, L (L za0 y) 12, L (L za0 y) 13, L (L za0 y) 14, L (L za0 y) 15]) 8), .int .u8 (L (L za7 [L (L za0 y) 0, L (L za0 y) 1, L (L za0 y) 2, L (L za0 y) 3, L (L za0 y) 4, L (L za0 y) 5, L (L za0 y) 6, L (L za0 y) 7, L (L za0 y) 8, L (L za0 y) 9, L (L za0 y) 10, L (L za0 y) 11, L (L za0 y) 12, L (L za0 y) 13, L (L za0 y) 14, L (L za0 y) 15]) 9), .int .u8 (L (L za7 [L (L za0 y) 0, L (L za0 y) 1, L (L za0 y) 2, L (L za0 y) 3, L (L za0 y) 4, L (L za0 y) 5, L (L za0 y) 6, L (L za0 y) 7, L (L za0 y) 8, L (L za0 y) 9, L (L za0 y) 10, L (L za0 y) 11, L (L za0 y) 12, L (L za0 y) 13, L (L za0 y) 14, L (L za0 y) 15]) 10), .int .u8 (L (L za7 [L (L za0 y) 0, L (L za0 y) 1, L (L za0 y) 2, L (L za0 y) 3, L (L za0 y) 4, L (L za0 y) 5, L (L za0 y) 6, L (L za0 y) 7, L (L za0 y) 8, L (L za0 y) 9, L (L za0 y) 10, L (L za0 y) 11, L (L za0 y) 12, L (L za0 y) 13, L (L za0 y) 14, L (L za0 y) 15]) 11), .int .u8 (L (L za7 [L (L za0 y) 0, L (L za0 y) 1, L (L za0 y) 2, L (L za0 y) 3, L (L za0 y) 4, L (L za0 y) 5, L (L za0 y) 6, L (L za0 y) 7, L (L za0 y) 8, L (L za0 y) 9, L (L za0 y) 10, L (L za0 y) 11, L (L za0 y) 12, L (L za0 y) 13, L (L za0 y) 14, L (L za0 y) 15]) 12), .int .u8 (L (L za7 [L (L za0 y) 0, L (L za0 y) 1, L (L za0 y) 2, L (L za0 y) 3, L (L za0 y) 4, L (L za0 y) 5, L (L za0 y) 6, L (L za0 y) 7, L (L za0 y) 8, L (L za0 y) 9, L (L za0 y) 10, L (L za0 y) 11, L (L za0 y) 12, L (L za0 y) 13, L (L za0 y) 14, L (L za0 y) 15]) 13), .int .u8 (L (L za7 [L (L za0 y) 0, L (L za0 y) 1, L (L za0 y) 2, L (L za0 y) 3, L (L za0 y) 4, L (L za0 y) 5, L (L za0 y) 6, L (L za0 y) 7, L (L za0 y) 8, L (L za0 y) 9, L (L za0 y) 10, L (L za0 y) 11, L (L za0 y) 12, L (L za0 y) 13, L (L za0 y) 14, L (L za0 y) 15]) 14), .int .u8 (L (L za7 [L (L za0 y) 0, L (L za0 y) 1, L (L za0 y) 2, L (L za0 y) 3, L (L za0 y) 4, L (L za0 y) 5, L (L za0 y) 6, L (L za0 y) 7, L (L za0 y) 8, L (L za0 y) 9, L (L za0 y) 10, L (L za0 y) 11, L (L za0 y) 12, L (L za0 y) 13, L (L za0 y) 14, L (L za0 y) 15]) 15)])) = True) /\
 (∀ y : List Le, L zan (.lst 18 (L zkn y) (fun i => leC L (L (L zak y) i))) = y) /\
 (∀ y : List Le, (L zi6 (.lst 18 (L zkn y) (fun i => leC L (L (L zak y) i)))) = True)
theorem zgx : zg4 std :=
 ⟨fun y d h => (yh7 ⟨y, d, h⟩).2,
  fun y d h => eq_true (yh7 ⟨y, d, h⟩).1,
  fun y d h => (yh7 ⟨y, d, h⟩).2,
  fun y d h => eq_true (yh7 ⟨y, d, h⟩).1,
  fun y => rfl,
  fun y z => ymq y z,
  fun y d h => rfl,
  fun y => (ybj y).2,
  fun y => eq_true (ybj y).1,
  fun y => (ybj y).2,
  fun y => eq_true (ybj y).1,
  fun y => yvi y,
  fun y => eq_true (yvu y)⟩
def ze3 (l : List Le) : Prop := l.length <= 1000000
def zew (l : List Le) (p : Pr) : Int := zdr (prN p) l
def zwb (l : List Le) (p : Pr) : Bool := zcf p l
def lbIn (l : List Le) (p : Pr) (x : Nat × Nat) : Prop := x.1 <= zdr (prN p) l /\ zdr (prN p) l <= x.2 /\ x.2 <= l.length
def lbGo (x : Nat × Nat) : Nat := x.2 - x.1
def lbsA (L : zaa) (l : List Le) (p : Pr) : Nat -> St -> Option Ann := fun id st => match id with
 | 0 => some ⟨Nat × Nat, fun x => [(9, .int .i64 (L za8 (L Prod.fst x))), (10, .int .i64 (L za8 (L Prod.snd x)))], fun x => [], [0, 2, 4, 8], [4], fun x => L3 L lbIn l p x, fun x => L lbGo x⟩
 | _ => none
def yno (L : zaa) : zcl := (43, fun xs => match xs with
 | [x, q, .fn k [] []] => match zav k 44 with
   | true => some (L zi6 x /\ L zkl q /\ L ze3 (L zan x) /\ L zef (L zan x) /\ L zi0 (L zbl q), .tup [.int .i64 (L2 L zew (L zan x) (L zbl q)), .bool (L2 L zwb (L zan x) (L zbl q))])
   | false => none
 | _ => none)
theorem zq0 {i j : Nat} {m : Int} (h : j <= 1000000) (hi : (i : Int) < (j : Int)) (hm : (zo7 .u64 ((((i : Int) + (j : Int) + 9223372036854775808) % 18446744073709551616 - 9223372036854775808) % 18446744073709551616) 1 + 9223372036854775808) % 18446744073709551616 - 9223372036854775808 = m) :
   m = (((i + j) / 2 : Nat) : Int) := by
 have e : zo7 .u64 ((((i : Int) + (j : Int) + 9223372036854775808) % 18446744073709551616 - 9223372036854775808) % 18446744073709551616) 1 = ((i : Int) + j) / 2 := by
   rw [show (((i : Int) + (j : Int) + 9223372036854775808) % 18446744073709551616 - 9223372036854775808) % 18446744073709551616 = (i : Int) + j by omega]
   unfold zo7
   show Int.fdiv _ (2 ^ 1) = _
   rw [Int.fdiv_eq_ediv_of_nonneg _ (by decide)]
   rfl
 rw [e] at hm
 omega
theorem yl4 {p q : Pr} : (zqm p q < 0) = (prN p < prN q) := by
 unfold zqm
 split
 · rename_i h; exact propext ⟨fun _ => h, fun _ => by decide⟩
 · rename_i h
   split
   · exact propext ⟨fun h2 => by omega, fun h2 => absurd h2 h⟩
   · exact propext ⟨fun h2 => by omega, fun h2 => absurd h2 h⟩
theorem yei {p q : Pr} : (zqm p q = 0) = (prN p = prN q) := by
 unfold zqm
 split
 · rename_i h; exact propext ⟨fun h2 => by omega, fun h2 => by omega⟩
 · rename_i h
   split
   · exact propext ⟨fun h2 => by omega, fun h2 => by omega⟩
   · exact propext ⟨fun h2 => by omega, fun _ => rfl⟩
theorem ynp {l : List Le} {p : Pr} (hok : zef l) (hpo : zi0 p) {i : Nat} (e : i = zdr (prN p) l) : ((i : Int) < (l.length : Int) -> ieq (zqm (zak l i).p p) 0 = zcf p l) /\ ((l.length : Int) <= (i : Int) -> false = zcf p l) := by
 subst e
 constructor
 · intro h
   have h : zdr (prN p) l < l.length := by omega
   rw [zd2 h]
   have hh := yw5 hok hpo h
   cases hb : zcf p l with
   | true =>
     have := hh.2 hb
     simp only [ieq, beq_iff_eq, yei]; exact this
   | false =>
     simp only [ieq, beq_eq_false_iff_ne, ne_eq, yei]
     intro h2
     rw [hh.1 h2] at hb; cases hb
 · intro h
   cases hb : zcf p l with
   | true =>
     obtain ⟨h2, _⟩ := (zj4 hok hpo).1 hb
     omega
   | false => rfl
theorem yii : zcs Tryz.prog (yno std) := by
 intro xs p r h hp
 unfold yno at h
 simp only at h
 split at h
 rotate_left
 · cases h
 rename_i x q k
 cases hk : zav k 44 with
 | false => rw [hk] at h; cases h
 | true =>
 rw [hk] at h
 obtain rfl : k = 44 := of_decide_eq_true hk
 cases h
 obtain ⟨ho, ho2, hz, hok, hpo⟩ := hp
 refine yty zec ho (zza zlq ho2 ?_)
 rw [zjq]
 have hz : ze3 (zan x) := hz
 have hok : zef (zan x) := hok
 have hpo : zi0 (zbl q) := hpo
 show zaf _ _ (zr0 std leV (zan x) :: zsz std (zbl q) :: _) (.tup [.int .i64 (zew (zan x) (zbl q)), .bool (zwb (zan x) (zbl q))])
 generalize zan x = l at hz hok |-
 generalize zbl q = p at hpo |-
 refine zau (T := tt) (S := fun L => zbi [ynn L]) (lo := fun L => lbsA L l p) (lb := noA) 5 (fn := Tryz.f43) (xs := fun L => [zci L l, zsz L p, .fn 44 [] []]) rfl rfl (by kernel_rfl) (by kernel_rfl) rfl zah (za9 ⟨yih, trivial⟩) (by kernel_rfl) ?_
 intro L P' Q' hL hP hQ
 have hw : zkn l = l.length := rfl
 have hz : l.length <= 1000000 := hz
 have hlb := zm5 (prN p) l
 obtain ⟨hE, hEo, hF, hFo, hEta, hPe, hMp, hQ0, hQo, hQ1, hQ1o, hG, hGo⟩ : zg4 L := by subst hL; exact zgx
 obtain ⟨nl, hnl⟩ : ∃ nl, nl = l.length := ⟨_, rfl⟩
 (cbv; try simp only [syT, true_and, and_true])
 refine ⟨⟨(0, nl), ?_⟩, fun x hx => ?_⟩
 · (cbv; try simp only [syT, true_and, and_true])
   (subst hL; subst hQ; simp only [L2, L3, std] at *; try simp only [syS, reduceCtorEq, Int.reduceToNat, Int.reduceAdd, Int.reduceSub] at *)
   subst hnl
   exact ⟨rfl, Nat.zero_le _, hlb, Nat.le_refl _⟩
 · cbv at hx
   (cbv; try simp only [syT, true_and, and_true])
   simp only [hPe, hE, hEo, hF, hFo, hEta, hMp, hQ1, hQ1o, hQ0, hQo, hG, hGo, true_and]
   generalize hm : L IntKind.i64.wrap (L (L (zo7 .u64) (L IntKind.u64.wrap (L (L (zcc .i64) (L za8 (L Prod.fst x))) (L za8 (L Prod.snd x))))) 1) = m
   refine ⟨fun hlt => ⟨?_, ?_, ?_, fun hc => ?_, fun hc => ?_⟩, fun hge => ?_⟩
   · (subst hL; subst hQ; simp only [L2, L3, std] at *; try simp only [syS, reduceCtorEq, Int.reduceToNat, Int.reduceAdd, Int.reduceSub] at *)
     decide
   · (subst hL; subst hQ; simp only [L2, L3, std] at *; try simp only [syS, reduceCtorEq, Int.reduceToNat, Int.reduceAdd, Int.reduceSub] at *)
     obtain ⟨x1, x2, x3⟩ := hx
     have hmm := zq0 (by omega) hlt hm
     clear hm
     omega
   · (subst hL; subst hQ; simp only [L2, L3, std] at *; try simp only [syS, reduceCtorEq, Int.reduceToNat, Int.reduceAdd, Int.reduceSub] at *)
     obtain ⟨x1, x2, x3⟩ := hx
     have hmm := zq0 (by omega) hlt hm
     clear hm
     have hl : m.toNat < l.length := by omega
     refine ⟨?_, hpo⟩
     show zi0 (zak l m.toNat).p
     rw [zd2 hl]
     exact (hok.ok _ (List.getElem_mem hl)).1
   · obtain ⟨y, hy⟩ : ∃ y : Nat × Nat, y = (m.toNat + 1, x.2) := ⟨_, rfl⟩
     refine ⟨y, ?_⟩
     (cbv; try simp only [syT, true_and, and_true])
     (subst hL; subst hQ; simp only [L2, L3, std] at *; try simp only [syS, reduceCtorEq, Int.reduceToNat, Int.reduceAdd, Int.reduceSub] at *)
     obtain ⟨x1, x2, x3⟩ := hx
     have hmm := zq0 (by omega) hlt hm
     clear hm
     have hl : m.toNat < l.length := by omega
     rw [zd2 hl, yl4] at hc
     have hlt2 : m.toNat < zdr (prN p) l := by
       rcases Nat.lt_or_ge m.toNat (zdr (prN p) l) with h | h
       · exact h
       · have := zpc hok.ris hl h
         have hc : kLe l[m.toNat] < prN p := hc
         omega
     subst hy
     refine ⟨rfl, by show _ = ((m.toNat + 1 : Nat) : Int); omega, ⟨hlt2, x2, x3⟩, ?_⟩
     show x.2 - (m.toNat + 1) + 1 <= x.2 - x.1
     omega
   · obtain ⟨y, hy⟩ : ∃ y : Nat × Nat, y = (x.1, m.toNat) := ⟨_, rfl⟩
     refine ⟨y, ?_⟩
     (cbv; try simp only [syT, true_and, and_true])
     (subst hL; subst hQ; simp only [L2, L3, std] at *; try simp only [syS, reduceCtorEq, Int.reduceToNat, Int.reduceAdd, Int.reduceSub] at *)
     obtain ⟨x1, x2, x3⟩ := hx
     have hmm := zq0 (by omega) hlt hm
     clear hm
     have hl : m.toNat < l.length := by omega
     have hc : ¬ zqm (zak l m.toNat).p p < 0 := by omega
     rw [zd2 hl, yl4] at hc
     have hge2 : ¬ m.toNat < zdr (prN p) l := fun h => hc (zjx hl h)
     subst hy
     refine ⟨by show m = ((m.toNat : Nat) : Int); omega, rfl, ⟨x1, by show zdr (prN p) l <= m.toNat; omega, by show m.toNat <= l.length; omega⟩, ?_⟩
     show m.toNat - x.1 + 1 <= x.2 - x.1
     omega
   · (subst hL; subst hQ; simp only [L2, L3, std] at *; try simp only [syS, reduceCtorEq, Int.reduceToNat, Int.reduceAdd, Int.reduceSub] at *)
     obtain ⟨x1, x2, x3⟩ := hx
     clear hm
     have e : x.1 = zdr (prN p) l := by omega
     obtain ⟨k1, k2⟩ := ynp hok hpo e
     refine ⟨fun h1 => ⟨⟨by omega, h1⟩, ⟨?_, hpo⟩, by rw [e]; rfl, k1 (by omega)⟩, fun h1 => ⟨by rw [e]; rfl, k2 (by omega)⟩⟩
     show zi0 (zak l x.1).p
     have hl : x.1 < l.length := by omega
     rw [zd2 hl]
     exact (hok.ok _ (List.getElem_mem hl)).1
def yby (L : zaa) : zcl := (24, fun xs => match xs with
 | [.agg [x], q] => some (L zi6 x /\ L zkl q /\ L ze3 (L zan x) /\ L zef (L zan x) /\ L zi0 (L zbl q), .tup [.int .i64 (L2 L zew (L zan x) (L zbl q)), .bool (L2 L zwb (L zan x) (L zbl q))])
 | _ => none)
theorem yve {h : Array Obj} {D : Nat -> Prop} {x y : AV} {xs : List AV} {vs : Array Value} (k : ∀ v, R h D zaz x v -> R h D zaz y v) (hr : RL h D zaz (.agg [x] :: xs) vs) : RL h D zaz (.agg [y] :: xs) vs := by
 refine ⟨hr.1, fun i z v hz hv => ?_⟩
 match i, hz with
 | 0, hz =>
   cases hz
   have r := hr.2 0 _ v rfl hv
   obtain ⟨us, rfl, o1, s1, hr'⟩ := r.inv_agg
   refine .agg _ _ s1 o1 fun j z w hz hw => ?_
   match j, hz with
   | 0, hz => cases hz; exact k w (hr' 0 x w rfl hw)
 | i + 1, hz => exact hr.2 (i + 1) z v hz hv
theorem zue {α : Type} {V : Vw α} (K : zzl V) {P : Program} {f : FuncId} {x r : AV} {xs : List AV} (ho : okW V x) (h : zaf P f (.agg [zr0 std V (rdW V x)] :: xs) r) : zaf P f (.agg [x] :: xs) r :=
 zji (fun h D vs hr => yve (fun v => ymz K ho) hr) h
theorem zou : zcs Tryz.prog (yby std) := by
 intro xs p r h hp
 dsimp only [yby] at h |-
 split at h <;> cases h
 try simp only [L2, L3, std] at hp |-
 rename_i x q
 obtain ⟨ho, ho2, hz, hok, hpo⟩ := hp
 refine zue zec ho (zza zlq ho2 ?_)
 rw [zjq]
 have hz : ze3 (zan x) := hz
 have hok : zef (zan x) := hok
 have hpo : zi0 (zbl q) := hpo
 show zaf _ _ (.agg [zr0 std leV (zan x)] :: zsz std (zbl q) :: _) (.tup [.int .i64 (zew (zan x) (zbl q)), .bool (zwb (zan x) (zbl q))])
 generalize zan x = l at hz hok |-
 generalize zbl q = p at hpo |-
 refine zau (T := tt) (S := fun L => zbi [yno L]) (lo := noA) (lb := noA) 5 (fn := Tryz.f24) (xs := fun L => [.agg [zci L l], zsz L p]) rfl rfl (by kernel_rfl) (by kernel_rfl) rfl zah (za9 ⟨yii, trivial⟩) (by kernel_rfl) ?_
 intro L P' Q' hL hP hQ
 obtain ⟨hE, hEo, hF, hFo, hEta, hPe, hMp, hQ0, hQo, hQ1, hQ1o, hG, hGo⟩ : zg4 L := by subst hL; exact zgx
 (cbv; try simp only [syT, true_and, and_true])
 simp only [hPe, hE, hEo, hF, hFo, hEta, hMp, hQ1, hQ1o, hQ0, hQo, hG, hGo, true_and]
 subst hL; subst hQ
 exact ⟨⟨hz, hok, hpo⟩, by simp [zea, zay, zcz, zg0, zen, std]⟩
theorem zhe : zd1 Tryz.prog (yej 28 33 18 std) := by
 intro raw ob T h hp
 unfold yej at h
 simp only at h
 split at h
 rotate_left
 · cases h
 rename_i s n get
 cases hs : zav s 18 with
 | false => rw [hs] at h; cases h
 | true =>
 rw [hs] at h
 cases h
 have hp : n <= 1000000 := hp
 refine ys7 (fun h0 => ?_) (fun h0 => ?_) (fun h0 => ?_)
 · refine zat (T := tt) (S := noS) (lo := noA) (lb := noA) 5 (fn := Tryz.f28) (xs := fun L => [.lst 18 n get]) (rts := fun _ => [.sl 900 18 0 n]) (O := fun L => []) (O1 := fun L => [(900, .row 33 18 n get)]) rfl rfl (by kernel_rfl) (by kernel_rfl) (by kernel_rfl) zah (zdd _) (by kernel_rfl) ?_
   intro L P' Q' hL hP hQ
   (cbv; try simp only [syT, true_and, and_true])
   (subst hL; subst hQ; simp only [L2, L3, std] at *; try simp only [syS, reduceCtorEq, Int.reduceToNat, Int.reduceAdd, Int.reduceSub] at *)
   simp only [zc9] at *
   exact ⟨h0, Nat.le_trans (Nat.mul_le_mul_right _ (show 0 + n <= 1000000 by omega)) (by decide), by omega⟩
 · refine zat (T := tt) (S := noS) (lo := noA) (lb := noA) 5 (fn := Tryz.f28) (xs := fun L => [.nils]) (rts := fun _ => [.sl 900 18 0 n]) (O := fun L => []) (O1 := fun L => [(900, .row 33 18 n get)]) rfl rfl (by kernel_rfl) (by kernel_rfl) (by kernel_rfl) zah (zdd _) (by kernel_rfl) ?_
   intro L P' Q' hL hP hQ
   (cbv; try simp only [syT, true_and, and_true])
   (subst hL; subst hQ; simp only [L2, L3, std] at *; try simp only [syS, reduceCtorEq, Int.reduceToNat, Int.reduceAdd, Int.reduceSub] at *)
   exact ⟨by omega, by omega⟩
 · refine zat (T := tt) (S := noS) (lo := noA) (lb := noA) 5 (fn := Tryz.f28) (xs := fun L => [.emp]) (rts := fun _ => [.sl 900 18 0 n]) (O := fun L => []) (O1 := fun L => [(900, .row 33 18 n get)]) rfl rfl (by kernel_rfl) (by kernel_rfl) (by kernel_rfl) zah (zdd _) (by kernel_rfl) ?_
   intro L P' Q' hL hP hQ
   (cbv; try simp only [syT, true_and, and_true])
   (subst hL; subst hQ; simp only [L2, L3, std] at *; try simp only [syS, reduceCtorEq, Int.reduceToNat, Int.reduceAdd, Int.reduceSub] at *)
   exact ⟨⟨by omega, by omega⟩, ⟨by omega, fun i j hi hj => by omega⟩, by omega⟩
theorem yqx : (Tryz.prog.info? 33).map (·.size) = some 18 := by kernel_rfl
theorem zt3 : zd1 Tryz.prog (yc2 63) := by
 have h1 : Tryz.prog.funcs[63]? = some Tryz.f63 := rfl
 have h2 : (Tryz.f63.name == "runtime.NumGoroutine") = false := by kernel_rfl
 have h3 : Tryz.f63.body.isNone = true := by kernel_rfl
 have h4 : Extern.findNext Tryz.f63 = none := by kernel_rfl
 have h5 : Extern.find Tryz.f63 = some (Extern.SlicesOverlaps.overlaps #[23, 23] #[4]) := by kernel_rfl
 have h6 : ∀ w, (Go.sizeOf 33).run Tryz.prog w = .ok 18 w := by
   intro w
   obtain ⟨i, hi, hs⟩ := Option.map_eq_some_iff.1 yqx
   simp [Go.sizeOf, typeInfo, program, Sem.run, hi, hs]
 exact yhf (P := Tryz.prog) (f := 63) (fn := Tryz.f63) (tS := 23) (tR := 4) (e := 33) (esz := 18) h1 h2 h3 h4 h5 Tryz.underlying23 h6
theorem yis {n n1 k : Nat} {i : Int} {get gv : Nat -> Nat -> AV} (hn : n <= 1000000) (hi : i = k) (h1 : k <= n) (hn1 : n1 = n + 1) : zb0 Tryz.prog 46 [.sl 500000 18 0 n, .int .i64 i, .sl 500001 18 0 1] [(500000, .row 33 18 n get), (500001, .row 33 18 1 gv)] (.sl 900 18 0 n1) [(900, .row 33 18 n1 (ykv get gv k))] := by
 refine zqz (T := tt) (S := fun L => zbe [] [yc2 63]) (lo := noA) (lb := noA) 5 (fn := Tryz.f46) (xs := fun L => [.sl 500000 18 0 n, .int .i64 i, .sl 500001 18 0 1]) (rts := fun _ => [.sl 900 18 0 n1]) (O := fun L => [(500000, .row 33 18 n get), (500001, .row 33 18 1 gv)]) (O1 := fun L => [(900, .row 33 18 n1 (ykv get gv k))]) rfl rfl (by kernel_rfl) (by kernel_rfl) (by kernel_rfl) zah (zai trivial ⟨zt3, trivial⟩) (by kernel_rfl) ?_
 intro L P' Q' hL hP hQ
 (cbv; try simp only [syT, true_and, and_true])
 intro cap hcap
 cbv at hcap
 (cbv; try simp only [syT, true_and, and_true])
 subst hL; subst hQ
 have hcap : n <= cap := hcap
 have hs1 : ∀ (x : Nat), std Int.toNat ((x : Nat) : Int) = x := fun x => rfl
 have hi2 : i = ((k : Nat) : Int) := hi
 clear hi
 subst hi2; subst hn1
 have w1 : zcc .i64 (za8 n) (za8 1) = za8 (n + 1) := by simp only [zcc, zct, za5]; omega
 have w2 : zkq .i64 (za8 (n + 1)) (k : Int) = za8 (n + 1 - k) := by simp only [zkq, zct, za5]; omega
 have w3 : zcc .i64 (k : Int) (za8 1) = za8 (k + 1) := by simp only [zcc, zct, za5]; omega
 simp only [L2, L3, std, w1, w2, w3] at *
 simp only [sySet, ydl, ysv, ysw, ych, ykn, ykl, ykm, yh0, yl8, yk4, Int.toNat_natCast, za5, yaa, yac, ykv, ym2 18 (by decide), ys5] at *
 repeat' first | refine And.intro ?_ ?_ | (intro _)
 all_goals try omega
 all_goals try contradiction
 all_goals try (rename_i q j hq hj; repeat' split)
 all_goals first | rfl | (exfalso; omega) | exact congrFun (congrArg _ (by omega)) _ | skip
theorem zys : zd1 Tryz.prog (ywd 46 33 18 std) := by
 intro raw ob T h hp
 unfold ywd at h
 simp only at h
 split at h
 rotate_left
 · cases h
 rename_i a s n i b s'
 split at h
 rotate_left
 · cases h
 cases h
 obtain ⟨p1, p2, p3⟩ : yit n i := hp
 exact yis p1 (k := i.toNat) (by omega) (by omega) rfl
theorem yje {n n1 k : Nat} {i j : Int} {get : Nat -> Nat -> AV} (hn : n <= 1000000) (hi : i = k) (hj : j = i + 1) (h1 : k < n) (hn1 : n1 = n - 1) : zb0 Tryz.prog 27 [.sl 500000 18 0 n, .int .i64 i, .int .i64 j] [(500000, .row 33 18 n get)] (.sl 900 18 0 n1) [(900, .row 33 18 n1 (zsg get k))] := by
 refine zqz (T := tt) (S := fun L => zbe [] []) (lo := noA) (lb := noA) 5 (fn := Tryz.f27) (xs := fun L => [.sl 500000 18 0 n, .int .i64 i, .int .i64 j]) (rts := fun _ => [.sl 900 18 0 n1]) (O := fun L => [(500000, .row 33 18 n get)]) (O1 := fun L => [(900, .row 33 18 n1 (zsg get k))]) rfl rfl (by kernel_rfl) (by kernel_rfl) (by kernel_rfl) zah (zai trivial trivial) (by kernel_rfl) ?_
 intro L P' Q' hL hP hQ
 (cbv; try simp only [syT, true_and, and_true])
 intro cap hcap
 cbv at hcap
 (cbv; try simp only [syT, true_and, and_true])
 subst hL; subst hQ
 have hcap : n <= cap := hcap
 have hi2 : i = ((k : Nat) : Int) := hi
 clear hi
 subst hi2; subst hj; subst hn1
 have e1 : ((k : Int) + 1).toNat = k + 1 := by omega
 simp only [L2, L3, std] at *
 simp only [sySet, ydl, ysv, ysw, ych, ykn, ykl, ykm, yl8, yk4, Int.toNat_natCast, e1, za5, yaa, yac, zsg, Bool.true_and] at *
 repeat' first | refine And.intro ?_ ?_ | (intro _)
 all_goals try omega
 all_goals try contradiction
 all_goals try (rename_i q j hq hj; repeat' split)
 all_goals first | rfl | (exfalso; omega) | exact congrFun (congrArg _ (by omega)) _ | skip
theorem zny : zd1 Tryz.prog (ywk 27 33 18 std) := by
 intro raw ob T h hp
 unfold ywk at h
 simp only at h
 split at h
 rotate_left
 · cases h
 rename_i a s n i j
 split at h
 rotate_left
 · cases h
 cases h
 obtain ⟨p1, p2, p3, p4⟩ : yjf n i j := hp
 exact yje p1 (k := i.toNat) (by omega) p4 (by omega) rfl
def yws (L : zaa) : zgz := yej 28 33 18 L
def inLe (L : zaa) : zgz := ywd 46 33 18 L
def dlLe (L : zaa) : zgz := ywk 27 33 18 L
theorem yeb {l : List Le} {k i : Nat} (hk : k < l.length) (j : Nat) : zsg (fun i => leC std (zak l i)) k i j = leC std (zak (zfm k l) i) j := by
 have e : zak (zfm k l) i = if i < k then zak l i else zak l (i + 1) := by
   unfold zak zzg zfm
   simp only [List.getD_eq_getElem?_getD]
   by_cases h : i < k
   · rw [if_pos h, List.getElem?_append_left (by rw [List.length_take]; omega), List.getElem?_take, if_pos h]
   · rw [if_neg h, List.getElem?_append_right (by rw [List.length_take]; omega), List.length_take, List.getElem?_drop, show k + 1 + (i - min k l.length) = i + 1 by omega]
 rw [e]
 unfold zsg
 split <;> rfl
theorem ydj {l : List Le} {e : Le} {g : Nat -> Nat -> AV} (hg : ∀ j, j < 18 -> g 0 j = leC std e j) {k i : Nat} (hk : k <= l.length) {j : Nat} (hj : j < 18) : ykv (fun i => leC std (zak l i)) g k i j = leC std (zak (yd8 k e l) i) j := by
 have ee : zak (yd8 k e l) i = if i < k then zak l i else if i = k then e else zak l (i - 1) := by
   unfold zak zzg yd8
   simp only [List.getD_eq_getElem?_getD]
   by_cases h : i < k
   · rw [if_pos h, List.getElem?_append_left (by rw [List.length_take]; omega), List.getElem?_take, if_pos h]
   · rw [if_neg h, List.getElem?_append_right (by rw [List.length_take]; omega), List.length_take, Nat.min_eq_left hk]
     by_cases h2 : i = k
     · rw [if_pos h2, h2, Nat.sub_self]; rfl
     · rw [if_neg h2]
       obtain ⟨r, hr⟩ : ∃ r, i - k = r + 1 := ⟨i - k - 1, by omega⟩
       rw [hr, List.getElem?_cons_succ, List.getElem?_drop, show k + r = i - 1 by omega]
 rw [ee]
 unfold ykv
 split
 · rfl
 · split
   · exact hg j hj
   · rfl
theorem yd0 (e : Le) {j : Nat} (hj : j < 18) : zby AV.dead [.int .u8 (za0 e.p 0), .int .u8 (za0 e.p 1), .int .u8 (za0 e.p 2), .int .u8 (za0 e.p 3), .int .u8 (za0 e.p 4), .int .u8 (za0 e.p 5), .int .u8 (za0 e.p 6), .int .u8 (za0 e.p 7), .int .u8 (za0 e.p 8), .int .u8 (za0 e.p 9), .int .u8 (za0 e.p 10), .int .u8 (za0 e.p 11), .int .u8 (za0 e.p 12), .int .u8 (za0 e.p 13), .int .u8 (za0 e.p 14), .int .u8 (za0 e.p 15), .int .i64 e.d, .bool e.h] j = leC std e j := by
 match j, hj with
 | 0, _ => rfl
 | 1, _ => rfl
 | 2, _ => rfl
 | 3, _ => rfl
 | 4, _ => rfl
 | 5, _ => rfl
 | 6, _ => rfl
 | 7, _ => rfl
 | 8, _ => rfl
 | 9, _ => rfl
 | 10, _ => rfl
 | 11, _ => rfl
 | 12, _ => rfl
 | 13, _ => rfl
 | 14, _ => rfl
 | 15, _ => rfl
 | 16, _ => rfl
 | 17, _ => rfl
 | j + 18, h => omega
theorem zro (l : List Le) (N : Nat) (G : Nat -> Nat -> AV) (h1 : N = l.length) (h2 : ∀ i j, i < N -> j < 18 -> G i j = leC std (zak l i) j) : zed (.agg [zci std l]) (.agg [.lst 18 N G]) := by
 show zb9 (.agg [.lst 18 (zkn l) fun i => leC std (zak l i)]) (.agg [.lst 18 N G])
 rw [zeo, zbh]
 exact ⟨⟨h1, fun i j hi hj => h2 i j (by rw [h1]; exact hi) hj⟩, trivial⟩
theorem zws (x y : Le) (h : y = x) : zed (leA std x) (leA std y) := by
 subst h
 show zb9 (leA std y) (leA std y)
 unfold leA
 simp only [zc2, zk1, zbh, and_self]
theorem yvl {l : List Le} {e : Le} (hl : zef l) (he : zig e) (hh : zcf e.p l = true) (hk : zcj e = true) : zca l e = yd8 (zdr (prN e.p) l) e (zfm (zdr (prN e.p) l) l) /\ zdr (prN e.p) l < l.length := by
 obtain ⟨h, _⟩ := (zj4 hl he.1).1 hh
 refine ⟨?_, h⟩
 unfold zca zgm
 rw [if_pos hk, if_pos hh]; rfl
theorem yvk {l : List Le} {e : Le} (hl : zef l) (he : zig e) (hh : zcf e.p l = true) (hk : zcj e = false) : zca l e = zfm (zdr (prN e.p) l) l /\ zdr (prN e.p) l < l.length := by
 obtain ⟨h, _⟩ := (zj4 hl he.1).1 hh
 refine ⟨?_, h⟩
 unfold zca zgm
 rw [if_neg (by rw [hk]; decide), if_pos hh]; rfl
theorem yvj {l : List Le} {e : Le} (hh : zcf e.p l = false) (hk : zcj e = true) : zca l e = yd8 (zdr (prN e.p) l) e l := by
 unfold zca zgm
 rw [if_pos hk, if_neg (by rw [hh]; decide)]; rfl
theorem yrm {l : List Le} {e : Le} (hh : zcf e.p l = false) (hk : zcj e = false) : zca l e = l := by
 unfold zca zgm
 rw [if_neg (by rw [hk]; decide), if_neg (by rw [hh]; decide)]
theorem ydc {e : Le} (h : ilt 0 e.d = true) : zcj e = true := by
 rw [zc6] at h
 simp [zcj, h]
theorem ydb {e : Le} (h : e.h = true) : zcj e = true := by simp [zcj, h]
theorem zwg {e : Le} (h : ilt 0 e.d = false) (h2 : e.h = false) : zcj e = false := by
 rw [ze4] at h
 simp [zcj, h2]; omega
theorem yjz {l : List Le} {e : Le} (hl : zef l) (he : zig e) (hh : zcf e.p l = true) (hk : zcj e = true) : zed (.agg [zci std (zca l e)]) (.agg [.lst 18 (zh2 l.length + 1) fun i => ykv (zsg (fun i => leC std (zak l i)) (zew l e.p).toNat) (fun i j => zby AV.dead [.int .u8 (za0 e.p 0), .int .u8 (za0 e.p 1), .int .u8 (za0 e.p 2), .int .u8 (za0 e.p 3), .int .u8 (za0 e.p 4), .int .u8 (za0 e.p 5), .int .u8 (za0 e.p 6), .int .u8 (za0 e.p 7), .int .u8 (za0 e.p 8), .int .u8 (za0 e.p 9), .int .u8 (za0 e.p 10), .int .u8 (za0 e.p 11), .int .u8 (za0 e.p 12), .int .u8 (za0 e.p 13), .int .u8 (za0 e.p 14), .int .u8 (za0 e.p 15), .int .i64 e.d, .bool e.h] (i * 18 + j)) (zew l e.p).toNat (Nat.add 0 i)]) := by
 obtain ⟨e1, e2⟩ := yvl hl he hh hk
 have hc := zfx e2
 have hi := zl2 (i := zdr (prN e.p) l) (e := e) (l := zfm (zdr (prN e.p) l) l) (by omega)
 refine zro _ _ _ (by rw [e1, hi]; unfold zh2; omega) (fun i j hi hj => ?_)
 rw [e1, show Nat.add 0 i = i from Nat.zero_add i, show (zew l e.p).toNat = zdr (prN e.p) l from Int.toNat_natCast _]
 rw [show zsg (fun i => leC std (zak l i)) (zdr (prN e.p) l) = fun i => leC std (zak (zfm (zdr (prN e.p) l) l) i) from funext fun i => funext fun j => yeb e2 j]
 exact ydj (fun j hj => by rw [Nat.zero_mul, Nat.zero_add]; exact yd0 e hj) (by omega) hj
theorem yqk {l : List Le} {e : Le} (hl : zef l) (he : zig e) (hh : zcf e.p l = true) (hk : zcj e = false) : zed (.agg [zci std (zca l e)]) (.agg [.lst 18 (zh2 l.length) fun i => zsg (fun i => leC std (zak l i)) (zew l e.p).toNat (Nat.add 0 i)]) := by
 obtain ⟨e1, e2⟩ := yvk hl he hh hk
 have hc := zfx e2
 refine zro _ _ _ (by rw [e1]; unfold zh2; omega) (fun i j hi hj => ?_)
 rw [e1, show Nat.add 0 i = i from Nat.zero_add i, show (zew l e.p).toNat = zdr (prN e.p) l from Int.toNat_natCast _]
 exact yeb e2 j
theorem yjy {l : List Le} {e : Le} (hh : zcf e.p l = false) (hk : zcj e = true) : zed (.agg [zci std (zca l e)]) (.agg [.lst 18 (l.length + 1) fun i => ykv (fun i => leC std (zak l i)) (fun i j => zby AV.dead [.int .u8 (za0 e.p 0), .int .u8 (za0 e.p 1), .int .u8 (za0 e.p 2), .int .u8 (za0 e.p 3), .int .u8 (za0 e.p 4), .int .u8 (za0 e.p 5), .int .u8 (za0 e.p 6), .int .u8 (za0 e.p 7), .int .u8 (za0 e.p 8), .int .u8 (za0 e.p 9), .int .u8 (za0 e.p 10), .int .u8 (za0 e.p 11), .int .u8 (za0 e.p 12), .int .u8 (za0 e.p 13), .int .u8 (za0 e.p 14), .int .u8 (za0 e.p 15), .int .i64 e.d, .bool e.h] (i * 18 + j)) (zew l e.p).toNat (Nat.add 0 i)]) := by
 have e1 := yvj hh hk
 have hlb := zm5 (prN e.p) l
 refine zro _ _ _ (by rw [e1, zl2 hlb]) (fun i j hi hj => ?_)
 rw [e1, show Nat.add 0 i = i from Nat.zero_add i, show (zew l e.p).toNat = zdr (prN e.p) l from Int.toNat_natCast _]
 exact ydj (fun j hj => by rw [Nat.zero_mul, Nat.zero_add]; exact yd0 e hj) hlb hj
theorem yqj {l : List Le} {e : Le} (hh : zcf e.p l = false) (hk : zcj e = false) : zed (.agg [zci std (zca l e)]) (.agg [.lst 18 l.length fun i => leC std (zak l (Nat.add 0 i))]) := by
 refine zro _ _ _ (by rw [yrm hh hk]) (fun i j hi hj => ?_)
 rw [yrm hh hk, show Nat.add 0 i = i from Nat.zero_add i]
def yi1 (L : zaa) : zcl := (29, fun xs => match xs with
 | [.agg [x], q] => some (L zi6 x /\ L zt6 q /\ L ze3 (L zan x) /\ L zef (L zan x) /\ L zig (L zgd q), .agg [zci L (L2 L zca (L zan x) (L zgd q))])
 | _ => none)
theorem zvy : zcs Tryz.prog (yi1 std) := by
 intro xs p r h hp
 dsimp only [yi1] at h |-
 split at h <;> cases h
 try simp only [L2, L3, std] at hp |-
 rename_i x q
 obtain ⟨ho, ho2, hz, hok, hpo⟩ := hp
 refine zue zec ho (zza zec ho2 ?_)
 rw [yd4]
 have hz : ze3 (zan x) := hz
 have hok : zef (zan x) := hok
 have hpo : zig (zgd q) := hpo
 show zaf _ _ (.agg [zr0 std leV (zan x)] :: leA std (zgd q) :: _) (.agg [zci std (zca (zan x) (zgd q))])
 generalize zan x = l at hz hok |-
 generalize zgd q = e at hpo |-
 refine zau (T := tt) (S := fun L => zbe [yby L] [yws L, inLe L, dlLe L]) (lo := noA) (lb := noA) 5 (fn := Tryz.f29) (xs := fun L => [.agg [zci L l], leA L e]) rfl rfl (by kernel_rfl) (by kernel_rfl) rfl zah (zai ⟨zou, trivial⟩ ⟨zhe, zys, zny, trivial⟩) (by kernel_rfl) ?_
 intro L P' Q' hL hP hQ
 obtain ⟨hE, hEo, hF, hFo, hEta, hPe, hMp, hQ0, hQo, hQ1, hQ1o, hG, hGo⟩ : zg4 L := by subst hL; exact zgx
 (cbv; try simp only [syT, true_and, and_true])
 simp only [hPe, hE, hEo, hF, hFo, hEta, hMp, hQ1, hQ1o, hQ0, hQo, hG, hGo, true_and]
 subst hL; subst hQ
 have hw : zkn l = l.length := rfl
 have hz : l.length <= 1000000 := hz
 have hlb := zm5 (prN e.p) l
 have w1 : zcc .i64 (zew l e.p) 1 = zew l e.p + 1 := by
   unfold zew zcc
   rw [zct]; omega
 have hdel : zcf e.p l = true -> yjf l.length (zew l e.p) (zcc .i64 (zew l e.p) 1) := fun h => by
   obtain ⟨h2, _⟩ := (zj4 hok hpo.1).1 h
   exact ⟨hz, Int.natCast_nonneg _, Int.ofNat_lt.2 h2, w1⟩
 have hins1 : zcf e.p l = true -> yit (zh2 l.length) (zew l e.p) := fun h => by
   obtain ⟨h2, _⟩ := (zj4 hok hpo.1).1 h
   exact ⟨by unfold zh2; omega, Int.natCast_nonneg _, by unfold zew zh2; omega⟩
 have hins2 : yit l.length (zew l e.p) := ⟨hz, Int.natCast_nonneg _, by unfold zew; omega⟩
 refine ⟨fun _ _ _ _ => trivial, hz, ⟨hz, hok, hpo.1⟩, fun hh => ⟨fun _ _ _ _ => trivial, hdel hh, fun hd => ⟨fun _ _ _ _ => trivial, fun _ _ _ _ => trivial, hins1 hh, yjz hok hpo hh (ydc hd)⟩, fun hd => ⟨fun hy => ⟨fun _ _ _ _ => trivial, fun _ _ _ _ => trivial, hins1 hh, yjz hok hpo hh (ydb hy)⟩, fun hy => yqk hok hpo hh (zwg hd hy)⟩⟩, fun hh => ⟨fun hd => ⟨fun _ _ _ _ => trivial, fun _ _ _ _ => trivial, hins2, yjy hh (ydc hd)⟩, fun hd => ⟨fun hy => ⟨fun _ _ _ _ => trivial, fun _ _ _ _ => trivial, hins2, yjy hh (ydb hy)⟩, fun hy => yqj hh (zwg hd hy)⟩⟩⟩
def ycy (L : zaa) : zcl := (10, fun xs => match xs with
 | [.agg [x], q] => some (L zi6 x /\ L zkl q /\ L ze3 (L zan x) /\ L zef (L zan x) /\ L zi0 (L zbl q), leA L (L2 L zcy (L zan x) (L zbl q)))
 | _ => none)
theorem zp9 : zcs Tryz.prog (ycy std) := by
 intro xs p r h hp
 dsimp only [ycy] at h |-
 split at h <;> cases h
 try simp only [L2, L3, std] at hp |-
 rename_i x q
 obtain ⟨ho, ho2, hz, hok, hpo⟩ := hp
 refine zue zec ho (zza zlq ho2 ?_)
 rw [zjq]
 have hz : ze3 (zan x) := hz
 have hok : zef (zan x) := hok
 have hpo : zi0 (zbl q) := hpo
 show zaf _ _ (.agg [zr0 std leV (zan x)] :: zsz std (zbl q) :: _) (leA std (zcy (zan x) (zbl q)))
 generalize zan x = l at hz hok |-
 generalize zbl q = p at hpo |-
 refine zau (T := tt) (S := fun L => zbi [yby L]) (lo := noA) (lb := noA) 5 (fn := Tryz.f10) (xs := fun L => [.agg [zci L l], zsz L p]) rfl rfl (by kernel_rfl) (by kernel_rfl) rfl zah (za9 ⟨zou, trivial⟩) (by kernel_rfl) ?_
 intro L P' Q' hL hP hQ
 obtain ⟨hE, hEo, hF, hFo, hEta, hPe, hMp, hQ0, hQo, hQ1, hQ1o, hG, hGo⟩ : zg4 L := by subst hL; exact zgx
 (cbv; try simp only [syT, true_and, and_true])
 simp only [hPe, hE, hEo, hF, hFo, hEta, hMp, hQ1, hQ1o, hQ0, hQo, hG, hGo, true_and]
 subst hL; subst hQ
 have hw : zkn l = l.length := rfl
 have hz : l.length <= 1000000 := hz
 refine ⟨⟨hz, hok, hpo⟩, fun hh => ?_, fun hh => ?_⟩
 · obtain ⟨h, e⟩ := yol hok hpo hh
   refine ⟨?_, ?_⟩
   · show inR (zew l p) (za8 l.length) = true
     rw [zfn, za5]
     exact ⟨Int.natCast_nonneg _, Int.ofNat_lt.2 h⟩
   · refine zws _ _ ?_
     show zak l (zew l p).toNat = zcy l p
     rw [e, show (zew l p).toNat = zdr (prN p) l from Int.toNat_natCast _, zd2 h]
 · exact zws _ ⟨p, 0, false⟩ (yok hh).symm
def ynq (L : zaa) : zcl := (9, fun xs => match xs with
 | [.agg [x]] => some (L zi6 x /\ L ze3 (L zan x), zci L (L zan x))
 | _ => none)
theorem yik : zcs Tryz.prog (ynq std) := by
 intro xs p r h hp
 dsimp only [ynq] at h |-
 split at h <;> cases h
 try simp only [L2, L3, std] at hp |-
 rename_i x
 obtain ⟨ho, hz⟩ := hp
 refine zue zec ho ?_
 have hz : ze3 (zan x) := hz
 show zaf _ _ (.agg [zr0 std leV (zan x)] :: _) (zci std (zan x))
 generalize zan x = l at hz |-
 refine zau (T := tt) (S := fun L => zbe [] [yws L]) (lo := noA) (lb := noA) 5 (fn := Tryz.f9) (xs := fun L => [.agg [zci L l]]) rfl rfl (by kernel_rfl) (by kernel_rfl) rfl zah (zai trivial ⟨zhe, trivial⟩) (by kernel_rfl) ?_
 intro L P' Q' hL hP hQ
 (cbv; try simp only [syT, true_and, and_true])
 subst hL; subst hQ
 refine ⟨fun _ _ _ _ => trivial, hz, ?_⟩
 show zb9 (.lst 18 (zkn l) fun i => leC std (zak l i)) (.lst 18 (zkn l) fun i => leC std (zak l (Nat.add 0 i)))
 rw [zj8]
 exact ⟨rfl, fun i j hi hj => by rw [show Nat.add 0 i = i from Nat.zero_add i]⟩
def ydt (L : zaa) : zcl := (26, fun xs => match xs with
 | [x] => some (L zt6 x, .bool (L not (L Le.h (L zgd x))))
 | _ => none)
theorem ydu : zcs Tryz.prog (ydt std) := by
 intro xs p r h hp
 dsimp only [ydt] at h |-
 split at h <;> cases h
 try simp only [L2, L3, std] at hp |-
 rename_i x
 have ho : zt6 x := hp
 refine yx8 zec ho ?_
 rw [yd4]
 show zaf Tryz.prog 26 [leA std (zgd x)] (.bool (!(zgd x).h))
 generalize zgd x = e
 refine zau (T := tt) (S := noS) (lo := noA) (lb := noA) 5 (fn := Tryz.f26) (xs := fun L => [leA L e]) rfl rfl (by kernel_rfl) (by kernel_rfl) rfl zah (zdd _) (by kernel_rfl) ?_
 intro L P' Q' hL hP hQ
 (cbv; try simp only [syT, true_and, and_true])
 subst hL; subst hQ
 rw [zbp]; rfl
def zkd (e : Le) : Bool := !e.h
def zfz (l : List Le) : Int := zrg zkd l
def fidA (L : zaa) (l : List Le) : Nat -> St -> Option Ann := fun id st => match id with
 | 0 => some ⟨Nat, fun i => [(8, .int .i64 (L za8 i))], fun _ => [], [0, 1, 4, 7], [], fun i => L3 L zt8 zkd l i, fun i => L2 L Nat.sub (L zkn l) i⟩
 | _ => none
def yom (L : zaa) : zcl := (25, fun xs => match xs with
 | [x, .fn k [] []] => match zav k 26 with
   | true => some (L zi6 x /\ L ze3 (L zan x), .int .i64 (L zfz (L zan x)))
   | false => none
 | _ => none)
theorem yja : zcs Tryz.prog (yom std) := by
 intro xs p r h hp
 unfold yom at h
 simp only at h
 split at h
 rotate_left
 · cases h
 rename_i x k
 cases hk : zav k 26 with
 | false => rw [hk] at h; cases h
 | true =>
 rw [hk] at h
 obtain rfl : k = 26 := of_decide_eq_true hk
 cases h
 obtain ⟨ho, hz⟩ := hp
 refine yty zec ho ?_
 have hz : ze3 (zan x) := hz
 show zaf _ _ (zr0 std leV (zan x) :: _) (.int .i64 (zfz (zan x)))
 generalize zan x = l at hz |-
 refine zau (T := tt) (S := fun L => zbi [ydt L]) (lo := fun L => fidA L l) (lb := noA) 5 (fn := Tryz.f25) (xs := fun L => [zci L l, .fn 26 [] []]) rfl rfl (by kernel_rfl) (by kernel_rfl) rfl zah (za9 ⟨ydu, trivial⟩) (by kernel_rfl) ?_
 intro L P' Q' hL hP hQ
 have hw : zkn l = l.length := rfl
 have hz : l.length <= 1000000 := hz
 obtain ⟨hE, hEo, hF, hFo, hEta, hPe, hMp, hQ0, hQo, hQ1, hQ1o, hG, hGo⟩ : zg4 L := by subst hL; exact zgx
 (cbv; try simp only [syT, true_and, and_true])
 refine ⟨⟨0, ?_⟩, fun i hi => ?_⟩
 · (cbv; try simp only [syT, true_and, and_true])
   (subst hL; subst hQ; simp only [L2, L3, std] at *; try simp only [syS, reduceCtorEq, Int.reduceToNat, Int.reduceAdd, Int.reduceSub] at *)
   exact yn7 _ _
 · have hi2 : zt8 zkd l i := by
     have h := hi
     rw [hL] at h
     exact h
   clear hi
   (cbv; try simp only [syT, true_and, and_true])
   simp only [hPe, hE, hEo, hF, hFo, hEta, hMp, hQ1, hQ1o, hQ0, hQo, hG, hGo, true_and]
   obtain ⟨i', hi'⟩ : ∃ i', i' = i + 1 := ⟨_, rfl⟩
   refine ⟨fun h1 => ⟨?_, fun h2 => ?_, fun h2 => ⟨i', ?_⟩⟩, fun h1 => ?_⟩
   all_goals try (cbv; try simp only [syT, true_and, and_true])
   all_goals subst hL; subst hQ
   · have h1 : ilt (za8 i) (za8 l.length) = true := h1
     rw [zc6, za5, za5] at h1
     show inR (za8 i) (za8 l.length) = true
     rw [zfn, za5, za5]
     omega
   · have h1 : ilt (za8 i) (za8 l.length) = true := h1
     rw [zc6, za5, za5] at h1
     have hlt : i < l.length := by omega
     have h2 : zkd (zak l i) = true := h2
     show zed (.int .i64 (zfz l)) (.int .i64 (za8 i))
     rw [zgo, zfz, ycc (V := leV) hi2 hlt h2]; rfl
   · have h1 : ilt (za8 i) (za8 l.length) = true := h1
     rw [zc6, za5, za5] at h1
     have hlt : i < l.length := by omega
     have h2 : zkd (zak l i) = false := h2
     subst hi'
     refine ⟨fun _ _ _ _ => trivial, ?_, zyc (V := leV) hi2 hlt h2, ?_⟩
     · show zcc .i64 (za8 i) 1 = za8 (i + 1)
       unfold zcc za8
       rw [zct]; omega
     · show l.length - (i + 1) < l.length - i
       omega
   · have h1 : ilt (za8 i) (za8 l.length) = false := h1
     rw [ze4, za5, za5] at h1
     show zed (.int .i64 (zfz l)) (.int .i64 (-1))
     rw [zgo, zfz, ycd hi2 (by omega)]
theorem zrq : ∀ l : List Le, (zfz l < 0 ↔ ¬ firstFree l < l.length) /\ (firstFree l < l.length -> zfz l = (firstFree l : Int))
 | [] => by simp [zfz, firstFree, zrg]
 | e :: l => by
   obtain ⟨h1, h2⟩ := zrq l
   have hx := (ydq zkd l).1
   unfold zfz firstFree at h1 h2 |-
   unfold zrg
   rw [List.findIdx_cons]
   cases hf : zkd e with
   | true =>
     have hf : (!e.h) = true := hf
     rw [if_pos rfl, hf]
     simp
   | false =>
     have hf : (!e.h) = false := hf
     rw [if_neg (by decide), hf, List.length_cons]
     simp only [cond_false]
     by_cases h3 : zrg zkd l < 0
     · rw [if_pos h3]
       have := h1.1 h3
       exact ⟨⟨fun _ => by omega, fun _ => by omega⟩, fun h => by omega⟩
     · rw [if_neg h3]
       have h4 : List.findIdx (fun e => !e.h) l < l.length := Classical.byContradiction fun h => h3 (h1.2 h)
       have h5 := h2 h4
       exact ⟨⟨fun _ => by omega, fun _ => by omega⟩, fun h => by omega⟩
def ldE (l : List Le) (x : Pr × Int) : Int := zez l x.1 x.2
def ldD (l : List Le) (x : Pr × Int) : List Le := zfb l x.1 x.2
def ynk (L : zaa) : zcl := (8, fun xs => match xs with
 | [.agg [x], q, .int .i64 k] => some (L zi6 x /\ L zkl q /\ L ze3 (L zan x) /\ L zef (L zan x) /\ L zi0 (L zbl q), .tup [.agg [zci L (L2 L ldD (L zan x) (L2 L Prod.mk (L zbl q) k))], .int .i64 (L2 L ldE (L zan x) (L2 L Prod.mk (L zbl q) k))])
 | _ => none)
theorem zps {l : List Le} {p : Pr} {k c : Int} (h : zez l p k = c) (hc : c ≠ 0) : zed (.tup [.agg [zci std (zfb l p k)], .int .i64 (zez l p k)]) (.tup [.agg [.nils], .int .i64 c]) := by
 have e : zfb l p k = [] := by unfold zfb; rw [if_neg (by rw [h]; exact hc)]
 rw [zea, zay, zay, zcz, zg0, h, e]
 refine ⟨?_, rfl, trivial⟩
 show zb9 (.agg [.lst 18 0 _]) (.agg [.nils])
 rw [zdf, zbh]
 exact ⟨rfl, trivial⟩
theorem zpt {l m : List Le} {p : Pr} {k : Int} (h : zez l p k = 0) (hm : m = zfb l p k) : zed (.tup [.agg [zci std (zfb l p k)], .int .i64 (zez l p k)]) (.tup [.agg [.lst 18 (zkn m) fun i => leC std (zak m i)], .int .i64 0]) := by
 rw [zea, zay, zay, zcz, zg0, h, <- hm]
 exact ⟨zro _ _ _ rfl fun i j hi hj => rfl, rfl, trivial⟩
theorem ytc {l : List Le} {i : Nat} (hi : i < l.length) : zi6 (.lst 18 (zh2 l.length) fun q => zsg (fun q => leC std (zak l q)) i (Nat.add 0 q)) /\ zan (.lst 18 (zh2 l.length) fun q => zsg (fun q => leC std (zak l q)) i (Nat.add 0 q)) = zfm i l := by
 have hl := zfx hi
 refine zv2 zec (by unfold zh2; omega) fun q j hq hj => ?_
 rw [show Nat.add 0 q = q from Nat.zero_add q]
 exact yeb hi j
theorem zry {l : List Le} {p : Pr} {k : Int} (hz : l.length <= 1000000) (hok : zef l) (hpo : zi0 p) (hk : ¬ (k < 1 \/ 255 < k)) {e : Le} (he : e = yqa (zcy l p) k) :
   (ze3 l /\ zef l /\ zi0 p) /\
     ((!zcf p l) = true ->
       (ile 64 (za8 l.length) = true ->
         ze3 l /\ (ilt (zfz l) 0 = true -> zed (.tup [.agg [zci std (zfb l p k)], .int .i64 (zez l p k)]) (.tup [.agg [.nils], .int .i64 17])) /\
           (ilt (zfz l) 0 = false ->
             (∀ (i j : Nat), i < l.length -> j < 18 -> True) /\ upN l.length /\ (∀ (i j : Nat), i < l.length -> j < 18 -> True) /\ yjf l.length (zfz l) (zcc .i64 (zfz l) 1) /\
               (zi6 (.lst 18 (zh2 l.length) fun i => zsg (fun i => leC std (zak l i)) (zfz l).toNat (Nat.add 0 i)) /\ ze3 (zan (.lst 18 (zh2 l.length) fun i => zsg (fun i => leC std (zak l i)) (zfz l).toNat (Nat.add 0 i))) /\
                 zef (zan (.lst 18 (zh2 l.length) fun i => zsg (fun i => leC std (zak l i)) (zfz l).toNat (Nat.add 0 i))) /\ zig e) /\
               zed (.tup [.agg [zci std (zfb l p k)], .int .i64 (zez l p k)]) (.tup [.agg [.lst 18 (zkn (zca (zan (.lst 18 (zh2 l.length) fun i => zsg (fun i => leC std (zak l i)) (zfz l).toNat (Nat.add 0 i))) e))
                 fun i => leC std (zak (zca (zan (.lst 18 (zh2 l.length) fun i => zsg (fun i => leC std (zak l i)) (zfz l).toNat (Nat.add 0 i))) e) i)], .int .i64 0]))) /\
       (ile 64 (za8 l.length) = false -> (ze3 l /\ zef l /\ zig e) /\
         zed (.tup [.agg [zci std (zfb l p k)], .int .i64 (zez l p k)]) (.tup [.agg [.lst 18 (zkn (zca l e)) fun i => leC std (zak (zca l e) i)], .int .i64 0]))) /\
     ((!zcf p l) = false -> (ze3 l /\ zef l /\ zig e) /\
       zed (.tup [.agg [zci std (zfb l p k)], .int .i64 (zez l p k)]) (.tup [.agg [.lst 18 (zkn (zca l e)) fun i => leC std (zak (zca l e) i)], .int .i64 0])) := by
 subst he
 have hke := ztw k (zl3 hok hpo)
 obtain ⟨f1, f2⟩ := zrq l
 refine ⟨⟨hz, hok, hpo⟩, fun hh => ⟨fun h64 => ⟨hz, fun hf => ?_, fun hf => ?_⟩, fun h64 => ?_⟩, fun hh => ?_⟩
 · rw [yo6, za5] at h64
   rw [zc6] at hf
   refine zps ?_ (by decide)
   unfold zez
   rw [if_neg hk, if_pos ⟨by unfold zmg; rw [hh, Bool.true_and]; exact decide_eq_true (by omega), f1.1 hf⟩]
 · rw [yo6, za5] at h64
   rw [ze4] at hf
   have hlt : firstFree l < l.length := Classical.byContradiction fun h => by have := f1.2 h; omega
   have ef := f2 hlt
   have et : (zfz l).toNat = firstFree l := by omega
   have hfull : zmg l p = true := by unfold zmg; rw [hh, Bool.true_and]; exact decide_eq_true (by omega)
   have hE0 : zez l p k = 0 := by unfold zez; rw [if_neg hk, if_neg (fun h => h.2 hlt)]
   have hl := zfx hlt
   rw [et]
   obtain ⟨c1, c2⟩ := ytc hlt
   rw [c2]
   refine ⟨fun _ _ _ _ => trivial, hz, fun _ _ _ _ => trivial, ⟨hz, by omega, by omega, ?_⟩, ⟨c1, (show (zfm (firstFree l) l).length <= 1000000 by omega), zpd hok, hke⟩, zpt hE0 ?_⟩
   · unfold zcc; rw [zct]; omega
   · unfold zfb zfg
     rw [if_pos hE0, if_pos hfull]
 · rw [ysr, za5] at h64
   have hfull : ¬ zmg l p = true := by unfold zmg; rw [hh, Bool.true_and]; simp; omega
   have hE0 : zez l p k = 0 := by unfold zez; rw [if_neg hk, if_neg (fun h => hfull h.1)]
   refine ⟨⟨hz, hok, hke⟩, zpt hE0 ?_⟩
   unfold zfb zfg
   rw [if_pos hE0, if_neg hfull]
 · have hfull : ¬ zmg l p = true := by unfold zmg; rw [hh, Bool.false_and]; decide
   have hE0 : zez l p k = 0 := by unfold zez; rw [if_neg hk, if_neg (fun h => hfull h.1)]
   refine ⟨⟨hz, hok, hke⟩, zpt hE0 ?_⟩
   unfold zfb zfg
   rw [if_pos hE0, if_neg hfull]
theorem yif : zcs Tryz.prog (ynk std) := by
 intro xs p r h hp
 dsimp only [ynk] at h |-
 split at h <;> cases h
 try simp only [L2, L3, std] at hp |-
 rename_i x q k
 obtain ⟨ho, ho2, hz, hok, hpo⟩ := hp
 refine zue zec ho (zza zlq ho2 ?_)
 rw [zjq]
 have hz : ze3 (zan x) := hz
 have hok : zef (zan x) := hok
 have hpo : zi0 (zbl q) := hpo
 show zaf _ _ (.agg [zr0 std leV (zan x)] :: zsz std (zbl q) :: _) (.tup [.agg [zci std (zfb (zan x) (zbl q) k)], .int .i64 (zez (zan x) (zbl q) k)])
 generalize zan x = l at hz hok |-
 generalize zbl q = p at hpo |-
 refine zau (T := tt) (S := fun L => zbe [ycy L, yby L, yi1 L, yom L] [yws L, dlLe L]) (lo := noA) (lb := noA) 5 (fn := Tryz.f8) (xs := fun L => [.agg [zci L l], zsz L p, .int .i64 k]) rfl rfl (by kernel_rfl) (by kernel_rfl) rfl zah (zai ⟨zp9, zou, zvy, yja, trivial⟩ ⟨zhe, zny, trivial⟩) (by kernel_rfl) ?_
 intro L P' Q' hL hP hQ
 obtain ⟨hE, hEo, hF, hFo, hEta, hPe, hMp, hQ0, hQo, hQ1, hQ1o, hG, hGo⟩ : zg4 L := by subst hL; exact zgx
 (cbv; try simp only [syT, true_and, and_true])
 simp only [hPe, hE, hEo, hF, hFo, hEta, hMp, hQ1, hQ1o, hQ0, hQo, hG, hGo, true_and]
 subst hL; subst hQ
 have hz : l.length <= 1000000 := hz
 have hgk := zl3 hok hpo
 have hw : zcc .i64 (zcy l p).d 1 = (zcy l p).d + 1 := by
   have := hgk.2
   unfold zcc
   rw [zct]; omega
 refine ⟨fun h => ?_, fun h1 => ⟨fun h => ?_, fun h2 => ⟨⟨hz, hok, hpo⟩, fun hh => ?_, fun hh => ?_⟩⟩⟩
 · have h : ilt k 1 = true := h
   rw [zc6] at h
   exact zps (by unfold zez; rw [if_pos (.inl h)]) (by decide)
 · have h : ilt 255 k = true := h
   rw [zc6] at h
   exact zps (by unfold zez; rw [if_pos (.inr h)]) (by decide)
 · have h1 : ilt k 1 = false := h1
   have h2 : ilt 255 k = false := h2
   rw [ze4] at h1 h2
   have hh : (zcy l p).h = true := hh
   refine zry hz hok hpo (by omega) (e := Le.mk (zcy l p).p (ysp (zcc .i64 (zcy l p).d 1) 255) true) ?_
   rw [hw]
   unfold yqa
   rw [hh]; rfl
 · have h1 : ilt k 1 = false := h1
   have h2 : ilt 255 k = false := h2
   rw [ze4] at h1 h2
   have hh : (zcy l p).h = false := hh
   refine zry hz hok hpo (by omega) (e := Le.mk (zcy l p).p (ysp (zcc .i64 (zcy l p).d 1) 255) (ile k (ysp (zcc .i64 (zcy l p).d 1) 255))) ?_
   rw [hw]
   unfold yqa
   rw [hh]; rfl
def m32 : Int := 4294967295
def mulW (x y : Int) : Int := zlc .u64 (zzk .u64 x m32) (zzk .u64 y m32)
def mulT (x y : Int) : Int := zcc .u64 (zlc .u64 (zo7 .u64 x 32) (zzk .u64 y m32)) (zo7 .u64 (mulW x y) 32)
def mulU (x y : Int) : Int := zcc .u64 (zzk .u64 (mulT x y) m32) (zlc .u64 (zzk .u64 x m32) (zo7 .u64 y 32))
def yhs (x y : Int) : Int := zcc .u64 (zcc .u64 (zlc .u64 (zo7 .u64 x 32) (zo7 .u64 y 32)) (zo7 .u64 (mulT x y) 32)) (zo7 .u64 (mulU x y) 32)
def yko (x y : Int) : Int := zlc .u64 x y
def ynb (L : zaa) : zcl := (129, fun xs => match xs with | [.int .u64 x, .int .u64 y] => some (True, .tup [.int .u64 (L2 L yhs x y), .int .u64 (L2 L yko x y)]) | _ => none)
theorem yhr : zcs Tryz.prog (ynb std) := by
 intro xs p r h hp
 dsimp only [ynb] at h |-
 split at h <;> cases h
 try simp only [L2, L3, std] at hp |-
 rename_i x y
 refine zab (T := tt) (S := noS) (lo := noA) (lb := noA) 5 (fn := Tryz.f129) rfl rfl (by kernel_rfl) (by kernel_rfl) rfl zah (zdd _) (by kernel_rfl) ?_
 intro L P' Q' hL hP hQ
 (cbv; try simp only [syT, true_and, and_true])
 subst hL; subst hQ
 refine ⟨rfl, rfl, rfl, rfl, rfl, ?_⟩
 show zed (.tup [.int .u64 (yhs x y), .int .u64 (yko x y)]) (.tup [.int .u64 (yhs x y), .int .u64 (yko x y)])
 simp only [sySet]
 trivial
def yqd (y p : Int) (three : Bool) : Bool := match three with
 | false => decide (p < yhs y y) || (decide (yhs y y = p) && decide (0 < yko y y))
 | true => decide (yfq .u64 p 32 < zcc .u64 (zlc .u64 (yhs y y) y) (yhs (yko y y) y)) || (decide (zcc .u64 (zlc .u64 (yhs y y) y) (yhs (yko y y) y) = yfq .u64 p 32) && decide (0 < yko (yko y y) y))
def ypt (L : zaa) : zcl := (123, fun xs => match xs with | [.int .u64 y, .int .u64 p, .bool t] => some (True, .bool (L3 L yqd y p t)) | _ => none)
theorem yjt : zcs Tryz.prog (ypt std) := by
 intro xs p r h hp
 dsimp only [ypt] at h |-
 split at h <;> cases h
 try simp only [L2, L3, std] at hp |-
 rename_i y p t
 refine zab (T := tt) (S := fun L => zbi [ynb L]) (lo := noA) (lb := noA) 5 (fn := Tryz.f123) rfl rfl (by kernel_rfl) (by kernel_rfl) rfl zah (za9 ⟨yhr, trivial⟩) (by kernel_rfl) ?_
 (intro L P1 Q1 hL hP hQ; cbv; subst hL; simp only [L2, L3, std, syT]; subst hQ)
 cases t
 · refine ⟨trivial, fun _ => ⟨fun h => ?_, fun h => ⟨fun h2 => ?_, fun h2 => ?_⟩⟩, fun h => by cases h⟩
   all_goals simp only [zbp]
   all_goals simp_all [yqd, ilt, ieq]
 · refine ⟨trivial, fun h => (by cases h), fun _ => ⟨trivial, rfl, fun h => ?_, fun h => ⟨rfl, fun h2 => ?_, fun h2 => ?_⟩⟩⟩
   all_goals simp only [zbp]
   all_goals simp_all [yqd, ilt, ieq]
def ykq (p : Int) (three : Bool) : Nat -> Int -> Int
 | 0, x => x
 | f + 1, x => ykq p three f (if yqd (bor .u64 x (2 ^ f)) p three = true then x else bor .u64 x (2 ^ f))
def yij (k n : Nat) : Nat := k + 0 * n
theorem zwc (k n : Nat) : yij k n = k := by rw [yij, Nat.zero_mul]; rfl
def zh8 (p : Int) (three : Bool) : Int := ykq p three (yij 37 p.toNat) 0 % 4294967296
theorem zr5 (p : Int) (three : Bool) : zh8 p three = ykq p three 37 0 % 4294967296 := by rw [zh8, zwc]
def zw1 (p : Int) (three : Bool) (x : Int × Nat) : Prop := x.2 <= 36 /\ ykq p three (x.2 + 1) x.1 = ykq p three 37 0
def zv9 (f : Nat) : Int := 2 ^ f
def lstA (L : zaa) (p : Int) (t : Bool) : Nat -> St -> Option Ann := fun id st => match id with
 | 0 => some ⟨Int × Nat, fun x => [(5, .int .u64 (L Prod.fst x)), (6, .int .u64 (L zv9 (L Prod.snd x)))], fun _ => [], [0, 1], [], fun x => L3 L zw1 p t x, fun x => L Prod.snd x⟩
 | _ => none
theorem ybx : ∀ f : _root_.Fin 37, zo7 .u64 (zv9 f.val) 1 = if f.val = 0 then 0 else zv9 (f.val - 1) := by decide +kernel
theorem zv8 (f : Nat) : 0 < zv9 f := by unfold zv9; exact Int.pow_pos (by decide)
theorem zl0 {f : Nat} (h : f <= 36) : zo7 .u64 (zv9 f) 1 = if f = 0 then 0 else zv9 (f - 1) := ybx ⟨f, by omega⟩
theorem zw0 {p : Int} {t : Bool} {x : Int} {f : Nat} (h : zw1 p t (x, f)) (h0 : ¬ f = 0) : zw1 p t ((if yqd (bor .u64 x (zv9 f)) p t = true then x else bor .u64 x (zv9 f)), f - 1) := by
 obtain ⟨h1, h2⟩ := h
 refine ⟨by show f - 1 <= 36; have : f <= 36 := h1; omega, ?_⟩
 rw [<- h2]
 show ykq p t (f - 1 + 1) _ = ykq p t (f + 1) x
 rw [show f - 1 + 1 = f by omega]
 rfl
theorem ycu {p : Int} {t : Bool} {x : Int} {f : Nat} (h : zw1 p t (x, f)) (h0 : f = 0) : (if yqd (bor .u64 x (zv9 f)) p t = true then x else bor .u64 x (zv9 f)) = ykq p t 37 0 := by
 obtain ⟨h1, h2⟩ := h
 subst h0
 rw [<- h2]; rfl
def zpa (L : zaa) : zcl := (112, fun xs => match xs with | [.int .u64 p, .bool t] => some (True, .int .u32 (L2 L zh8 p t)) | _ => none)
theorem znl : zcs Tryz.prog (zpa std) := by
 intro xs p r h hp
 dsimp only [zpa] at h |-
 split at h <;> cases h
 try simp only [L2, L3, std] at hp |-
 rename_i p t
 refine zab (T := tt) (S := fun L => zbi [ypt L]) (lo := noA) (lb := fun L => lstA L p t) 5 (fn := Tryz.f112) rfl rfl (by kernel_rfl) (by kernel_rfl) rfl zah (za9 ⟨yjt, trivial⟩) (by kernel_rfl) ?_
 intro L P' Q' hL hP hQ
 (cbv; try simp only [syT, true_and, and_true])
 refine ⟨fun x hx => ?_, ⟨(0, 36), ?_⟩⟩
 · cbv at hx
   obtain ⟨y1, hy1⟩ : ∃ y : Int × Nat, y = (bor .u64 x.1 (zv9 x.2), x.2 - 1) := ⟨_, rfl⟩
   obtain ⟨y2, hy2⟩ : ∃ y : Int × Nat, y = (x.1, x.2 - 1) := ⟨_, rfl⟩
   (cbv; try simp only [syT, true_and, and_true])
   refine ⟨fun h1 => ⟨?_, fun h2 => ⟨y1, ?_⟩, fun h2 => ?_⟩, fun h1 => ⟨?_, fun h2 => ⟨y2, ?_⟩, fun h2 => ?_⟩⟩
   all_goals (try (cbv; try simp only [syT, true_and, and_true]))
   all_goals (obtain ⟨x, f⟩ := x; (subst hL; subst hQ; simp only [L2, L3, std] at *; try simp only [syS, reduceCtorEq, Int.reduceToNat, Int.reduceAdd, Int.reduceSub] at *))
   · decide
   · rw [zl0 hx.1] at h2 |-
     have h0 : ¬ f = 0 := by intro h0; rw [if_pos h0] at h2; omega
     have := zw0 hx h0
     rw [if_neg (by simpa using h1)] at this
     rw [if_neg h0, hy1]
     have hf : f <= 36 := hx.1
     exact ⟨rfl, rfl, this, by show f - 1 + 1 <= f; omega⟩
   · rw [zl0 hx.1] at h2
     have h0 : f = 0 := by
       by_cases h0 : f = 0
       · exact h0
       · rw [if_neg h0] at h2
         exact absurd h2 (by
           have := zv8 (f - 1)
           show ¬ zv9 (f - 1) <= 0
           omega)
     have := ycu hx h0
     rw [if_neg (by simpa using h1)] at this
     rw [this, zr5]
   · decide
   · rw [zl0 hx.1] at h2 |-
     have h0 : ¬ f = 0 := by intro h0; rw [if_pos h0] at h2; omega
     have := zw0 hx h0
     rw [if_pos (by simpa using h1)] at this
     rw [if_neg h0, hy2]
     exact ⟨rfl, rfl, this, by show f - 1 + 1 <= f; omega⟩
   · rw [zl0 hx.1] at h2
     have h0 : f = 0 := by
       by_cases h0 : f = 0
       · exact h0
       · rw [if_neg h0] at h2
         exact absurd h2 (by
           have := zv8 (f - 1)
           show ¬ zv9 (f - 1) <= 0
           omega)
     have := ycu hx h0
     rw [if_pos (by simpa using h1)] at this
     rw [this, zr5]
 · (cbv; try simp only [syT, true_and, and_true])
   (subst hL; subst hQ; simp only [L2, L3, std] at *; try simp only [syS, reduceCtorEq, Int.reduceToNat, Int.reduceAdd, Int.reduceSub] at *)
   exact ⟨by decide, by decide, rfl⟩
def prF (n : Int) : Nat -> Int -> Bool
 | 0, _ => false
 | f + 1, d => if d * d <= n then (if n % d = 0 then false else prF n f (d + 1)) else decide (1 < n)
def zgw (n : Int) : Bool := prF n (yij 38 n.toNat) 2
theorem ybs (n : Int) : prF n 38 2 = zgw n := by rw [zgw, zwc]
def yvm (n : Int) (d : Nat) : Prop := 2 <= d /\ d <= 33 /\ prF n (40 - d) d = zgw n
def prA (L : zaa) (n : Int) : Nat -> St -> Option Ann := fun id st => match id with
 | 0 => some ⟨Nat, fun d => [(3, .int .u64 (L za8 d))], fun _ => [], [0], [], fun d => L2 L yvm n d, fun d => L (fun d : Nat => 40 - d) d⟩
 | _ => none
def zt0 (L : zaa) : zcl := (113, fun xs => match xs with | [.int .u64 n] => some (L (fun n : Int => 0 <= n /\ n <= 1000) n, .bool (L zgw n)) | _ => none)
theorem zy7 : zcs Tryz.prog (zt0 std) := by
 intro xs p r h hp
 dsimp only [zt0] at h |-
 split at h <;> cases h
 try simp only [L2, L3, std] at hp |-
 rename_i n
 have hn : 0 <= n /\ n <= 1000 := hp
 refine zab (T := tt) (S := noS) (lo := fun L => prA L n) (lb := noA) 5 (fn := Tryz.f113) rfl rfl (by kernel_rfl) (by kernel_rfl) rfl zah (zdd _) (by kernel_rfl) ?_
 intro L P' Q' hL hP hQ
 (cbv; try simp only [syT, true_and, and_true])
 refine ⟨⟨2, ?_⟩, fun d hd => ?_⟩
 · (cbv; try simp only [syT, true_and, and_true])
   (subst hL; subst hQ; simp only [L2, L3, std] at *; try simp only [syS, reduceCtorEq, Int.reduceToNat, Int.reduceAdd, Int.reduceSub] at *)
   exact ⟨by decide, by decide, ybs n⟩
 · cbv at hd
   (cbv; try simp only [syT, true_and, and_true])
   refine ⟨fun h1 => ⟨?_, fun h2 => ?_, fun h2 => ⟨d + 1, ?_⟩⟩, fun h1 => ?_⟩
   all_goals (try (cbv; try simp only [syT, true_and, and_true]))
   all_goals (subst hL; subst hQ; simp only [L2, L3, std] at *; try simp only [syS, reduceCtorEq, Int.reduceToNat, Int.reduceAdd, Int.reduceSub] at *)
   all_goals (obtain ⟨i1, i2, i3⟩ := hd)
   all_goals (have hdd : d * d <= 33 * 33 := Nat.mul_le_mul i2 i2)
   all_goals (have hd2 : ((d : Nat) : Int) * ((d : Nat) : Int) = ((d * d : Nat) : Int) := by simp)
   all_goals (rw [show 40 - d = (39 - d) + 1 by omega, prF, hd2] at i3)
   all_goals (try rw [hd2] at h1)
   · omega
   · rw [if_pos (by omega)] at i3
     rw [Int.tmod_eq_emod_of_nonneg hn.1] at h2
     rw [if_pos h2] at i3
     exact i3
   · rw [if_pos (by omega)] at i3
     rw [Int.tmod_eq_emod_of_nonneg hn.1] at h2
     rw [if_neg h2] at i3
     have h31 : d <= 31 := by
       apply Nat.le_of_not_lt
       intro h
       have : 32 * 32 <= d * d := Nat.mul_le_mul h h
       omega
     refine ⟨by omega, ⟨by omega, by omega, ?_⟩, by omega⟩
     rw [show 40 - (d + 1) = 39 - d by omega, <- i3]
     congr 1
   · rw [if_neg (by omega)] at i3
     rw [<- i3]; rfl
def zrd : List Int := [0x428a2f98, 0x71374491, 0xb5c0fbcf, 0xe9b5dba5, 0x3956c25b, 0x59f111f1, 0x923f82a4, 0xab1c5ed5,
 0xd807aa98, 0x12835b01, 0x243185be, 0x550c7dc3, 0x72be5d74, 0x80deb1fe, 0x9bdc06a7, 0xc19bf174,
 0xe49b69c1, 0xefbe4786, 0x0fc19dc6, 0x240ca1cc, 0x2de92c6f, 0x4a7484aa, 0x5cb0a9dc, 0x76f988da,
 0x983e5152, 0xa831c66d, 0xb00327c8, 0xbf597fc7, 0xc6e00bf3, 0xd5a79147, 0x06ca6351, 0x14292967,
 0x27b70a85, 0x2e1b2138, 0x4d2c6dfc, 0x53380d13, 0x650a7354, 0x766a0abb, 0x81c2c92e, 0x92722c85,
 0xa2bfe8a1, 0xa81a664b, 0xc24b8b70, 0xc76c51a3, 0xd192e819, 0xd6990624, 0xf40e3585, 0x106aa070,
 0x19a4c116, 0x1e376c08, 0x2748774c, 0x34b0bcb5, 0x391c0cb3, 0x4ed8aa4a, 0x5b9cca4f, 0x682e6ff3,
 0x748f82ee, 0x78a5636f, 0x84c87814, 0x8cc70208, 0x90befffa, 0xa4506ceb, 0xbef9a3f7, 0xc67178f2]
def znv : List Int := [0x6a09e667, 0xbb67ae85, 0x3c6ef372, 0xa54ff53a, 0x510e527f, 0x9b05688c, 0x1f83d9ab, 0x5be0cd19]
def zkg : Nat -> Nat
 | 0 => 0
 | n + 1 => if zgw n = true then zkg n + 1 else zkg n
def zeh : Nat -> List Int
 | 0 => List.replicate 64 0
 | n + 1 => if zgw n = true then (zeh n).set (zkg n) (zh8 n true) else zeh n
theorem zma : ∀ n, (zeh n).length = 64
 | 0 => by rw [zeh, List.length_replicate]
 | n + 1 => by
   rw [zeh]
   split
   · rw [List.length_set, zma n]
   · exact zma n
theorem yin : zeh 312 = zrd := by decide +kernel
theorem cnt_311 : zkg 311 = 63 /\ zkg 312 = 64 := by decide +kernel
theorem yjm : ∀ {m n : Nat}, m <= n -> zkg m <= zkg n := by
 intro m n h
 induction h with
 | refl => exact Nat.le_refl _
 | step h ih =>
   rename_i k
   rw [zkg]
   split <;> omega
def yku (n : Nat) : Prop := 2 <= n /\ n <= 311 /\ zkg n <= 63
def zko (n : Nat) : Int := zkg n
def keyA (L : zaa) : Nat -> St -> Option Ann := fun id st => match id with
 | 0 => some ⟨Nat, fun n => [(2, .int .u64 (L za8 n)), (3, .int .i64 (L zko n)), (1, .ref 1 0)], fun n => [(1, .row 145 1 64 (fun i _ => .int .u32 (L2 L za7 (L zeh n) i)))], [0], [0], fun n => L yku n, fun n => L (fun n : Nat => 312 - n) n⟩
 | _ => none
def zwi (L : zaa) : zcl := (96, fun xs => match xs with | [] => some (True, .arr 64 (fun j => .int .u32 (L2 L za7 zrd j))) | _ => none)
theorem yca {l : List Int} {k : Nat} {v : Int} (h : k < l.length) : za7 (l.set k v) k = v := by
 rw [za7, List.getD_eq_getElem?_getD, List.getElem?_set_self h]; rfl
theorem yn5 {l : List Int} {k i : Nat} {v : Int} (h : k ≠ i) : za7 (l.set k v) i = za7 l i := by
 rw [za7, za7, List.getD_eq_getElem?_getD, List.getD_eq_getElem?_getD, List.getElem?_set_ne h]
theorem ynv : zeh 2 = List.replicate 64 0 /\ 0 = zko 2 /\ zkg 2 <= 63 := by decide +kernel
theorem ykt {n : Nat} (h : n <= 311) (hc : zkg (n + 1) < 64) : n + 1 <= 311 := by
 rcases Nat.lt_or_eq_of_le h with h | h
 · exact h
 · rw [h] at hc
   exact absurd (cnt_311.2 ▸ hc : (64 : Nat) < 64) (by decide)
theorem ysj {n : Nat} (h : n <= 311) (hc : 64 <= zkg (n + 1)) : zeh (n + 1) = zrd := by
 rcases Nat.lt_or_eq_of_le h with h | h
 · have h2 := Nat.le_trans hc (yjm h)
   rw [cnt_311.1] at h2
   exact absurd h2 (by decide)
 · rw [h]; exact yin
theorem ynu {n : Nat} (h : zgw n = true) : zkg (n + 1) = zkg n + 1 /\ zeh (n + 1) = (zeh n).set (zkg n) (zh8 n true) := by
 rw [zkg, zeh, if_pos h, if_pos h]; exact ⟨rfl, rfl⟩
theorem k_no {n : Nat} (h : zgw n = false) : zkg (n + 1) = zkg n /\ zeh (n + 1) = zeh n := by
 rw [zkg, zeh, if_neg (by rw [h]; decide), if_neg (by rw [h]; decide)]; exact ⟨rfl, rfl⟩
theorem ym0 {l : List Int} {k i : Nat} (v : Int) (hk : k < l.length) : over std k 0 1 [.int .u32 v] (fun i x => .int .u32 (za7 l i)) i 0 = .int .u32 (za7 (l.set k v) i) := by
 rw [zgf, if_pos ⟨Nat.le_refl _, by omega⟩]
 by_cases hi2 : i = k
 · subst hi2
   rw [za6, yca hk]; rfl
 · rw [zaq hi2, yn5 (fun h => hi2 h.symm)]; rfl
theorem ysi {n i : Nat} (h : zgw n = true) (hc : zkg n < 64) : over std (zko n).toNat 0 1 [.int .u32 (zh8 n true)] (fun i x => .int .u32 (za7 (zeh n) i)) i 0 = .int .u32 (za7 (zeh (n + 1)) i) := by
 rw [(ynu h).2]
 have e : (zko n).toNat = zkg n := Int.toNat_natCast _
 rw [e]
 have hl : zkg n < (zeh n).length := by rw [zma]; exact hc
 generalize zh8 n true = v
 generalize zeh n = l at hl |-
 generalize zkg n = k at hl |-
 exact ym0 v hl
theorem k_go {n n' : Nat} (hn : n' = n + 1) (hi : yku n) (h1 : zgw n = true) (h2 : zko n + 1 < 64) : (∀ i, over std (zko n).toNat 0 1 [.int .u32 (zh8 n true)] (fun i x => .int .u32 (za7 (zeh n) i)) i 0 = .int .u32 (za7 (zeh n') i)) /\ zko n + 1 = zko n' /\ yku n' /\ 312 - n' < 312 - n := by
 subst hn
 obtain ⟨i1, i2, i3⟩ := hi
 obtain ⟨h3, -⟩ := ynu h1
 have h2' : zkg n + 1 < 64 := by unfold zko at h2; omega
 have h5 := ykt i2 (by rw [h3]; omega)
 refine ⟨fun i => ysi h1 (by omega), ?_, ⟨by omega, h5, by rw [h3]; omega⟩, by omega⟩
 unfold zko
 rw [h3]; rfl
theorem yw9 {n : Nat} (hi : yku n) (h1 : zgw n = true) (h2 : ¬ zko n + 1 < 64) (j : Nat) : over std (zko n).toNat 0 1 [.int .u32 (zh8 n true)] (fun i x => .int .u32 (za7 (zeh n) i)) j 0 = .int .u32 (za7 zrd j) := by
 obtain ⟨i1, i2, i3⟩ := hi
 obtain ⟨h3, -⟩ := ynu h1
 have h2' : 64 <= zkg n + 1 := by unfold zko at h2; omega
 rw [ysi h1 (by omega), ysj i2 (by rw [h3]; omega)]
theorem yw8 {n n' : Nat} (hn : n' = n + 1) (hi : yku n) (h1 : zgw n = false) (h2 : zko n < 64) : zeh n = zeh n' /\ zko n = zko n' /\ yku n' /\ 312 - n' < 312 - n := by
 subst hn
 obtain ⟨i1, i2, i3⟩ := hi
 obtain ⟨h3, h4⟩ := k_no h1
 have h5 := ykt i2 (by rw [h3]; omega)
 refine ⟨h4.symm, ?_, ⟨by omega, h5, by rw [h3]; omega⟩, by omega⟩
 unfold zko
 rw [h3]
theorem yw7 {n : Nat} (hi : yku n) : 2 <= n /\ n <= 311 /\ 0 <= zko n /\ zko n <= 63 := by
 obtain ⟨i1, i2, i3⟩ := hi
 refine ⟨i1, i2, Int.natCast_nonneg _, ?_⟩
 unfold zko; omega
theorem ywa {n : Nat} (hn : n = 2) : (∀ i, i < 64 -> za7 (zeh n) i = 0) /\ zko n = 0 /\ yku n /\ (n : Int) = 2 := by
 subst hn
 refine ⟨fun i hi => ?_, ynv.2.1.symm, ⟨by decide, by decide, ynv.2.2⟩, rfl⟩
 rw [ynv.1, za7, List.getD_eq_getElem?_getD, List.getElem?_replicate, if_pos hi]; rfl
theorem zrc : zcs Tryz.prog (zwi std) := by
 intro xs p r h hp
 dsimp only [zwi] at h |-
 split at h <;> cases h
 try simp only [L2, L3, std] at hp |-
 refine zab (T := tt) (S := fun L => zbi [zt0 L, zpa L]) (lo := noA) (lb := keyA) 5 (fn := Tryz.f96) rfl rfl (by kernel_rfl) (by kernel_rfl) rfl zah (za9 ⟨zy7, znl, trivial⟩) (by kernel_rfl) ?_
 intro L P' Q' hL hP hQ
 obtain ⟨n0, hn0⟩ : ∃ n0 : Nat, n0 = 2 := ⟨_, rfl⟩
 (cbv; try simp only [syT, true_and, and_true])
 refine ⟨fun n hn => ?_, ⟨n0, ?_⟩⟩
 · obtain ⟨n', hn'⟩ : ∃ n' : Nat, n' = n + 1 := ⟨_, rfl⟩
   (cbv; try simp only [syT, true_and, and_true])
   refine ⟨?_, fun h1 => ⟨?_, fun h2 => ⟨n', ?_⟩, fun h2 => ?_⟩, fun h1 => ⟨fun h2 => ⟨n', ?_⟩, fun h2 => ?_⟩⟩
   all_goals (try (cbv; try simp only [syT, true_and, and_true]))
   all_goals (subst hL; subst hQ; simp only [L2, L3, std] at *; try simp only [syS, reduceCtorEq, Int.reduceToNat, Int.reduceAdd, Int.reduceSub] at *)
   all_goals (obtain ⟨r1, r2, r3, r4⟩ := yw7 hn)
   · omega
   · omega
   · rw [show (zko n + 1 + 9223372036854775808) % 18446744073709551616 - 9223372036854775808 = zko n + 1 by omega] at h2 |-
     obtain ⟨e1, e2, e3, e4⟩ := k_go hn' hn h1 h2
     refine ⟨fun i j hi hj => ?_, e2, by omega, e3, by omega⟩
     have : j = 0 := by omega
     subst this
     exact e1 i
   · rw [show (zko n + 1 + 9223372036854775808) % 18446744073709551616 - 9223372036854775808 = zko n + 1 by omega] at h2
     intro j hj
     exact yw9 hn h1 (by omega) j
   · obtain ⟨e1, e2, e3, e4⟩ := yw8 hn' hn h1 h2
     exact ⟨fun i j hi hj => by rw [e1], e2, by omega, e3, by omega⟩
   · exfalso; omega
 · (cbv; try simp only [syT, true_and, and_true])
   (subst hL; subst hQ; simp only [L2, L3, std] at *; try simp only [syS, reduceCtorEq, Int.reduceToNat, Int.reduceAdd, Int.reduceSub] at *)
   obtain ⟨e1, e2, e3, e4⟩ := ywa hn0
   refine ⟨fun i j hi hj => ?_, e2.symm, e4.symm, e3⟩
   have : j = 0 := by omega
   subst this
   rw [e1 i hi]; rfl
end Sy
end Go.Proofs.YtlphgephdhadhaaGreat
namespace Go.Proofs.YtlphgephdhadhaaGreat
namespace Sy
open Go Go.RowKit
end Sy
end Go.Proofs.YtlphgephdhadhaaGreat
namespace Go.Proofs.YtlphgephdhadhaaGreat
namespace Sy
open Go Go.RowKit
set_option maxRecDepth 100000
set_option linter.unusedSimpArgs false
set_option linter.unusedVariables false
def yfv (a b : List UInt8) : Bool := a.take b.length == b
def ybu (a b : List UInt8) : Prop := a.length <= 1000000000 /\ b.length <= 1000000000
def zv7 (L : zaa) : zcl := (92, fun xs => match xs with | [.str a, .str b] => some (L2 L ybu a b, .bool (L2 L yfv a b)) | _ => none)
def ymp (L : zaa) : zcl := (82, fun xs => match xs with | [.str a, .str b] => some (L2 L ybu a b, .bool (L2 L yfv a b)) | _ => none)
theorem zql : zcs Tryz.prog (zv7 std) := by
 intro xs p r h hp
 dsimp only [zv7] at h |-
 split at h <;> cases h
 try simp only [L2, L3, std] at hp |-
 rename_i a b
 refine zab (T := tt) (S := noS) (lo := noA) (lb := noA) 5 (fn := Tryz.f92) rfl rfl (by kernel_rfl) (by kernel_rfl) rfl zah (zdd _) (by kernel_rfl) ?_
 (intro L P1 Q1 hL hP hQ; cbv; subst hL; simp only [L2, L3, std, syT]; subst hQ)
 (simp only [syS, reduceCtorEq, Int.reduceToNat, Int.reduceAdd, Int.reduceSub])
 exact ⟨fun h => ⟨by omega, rfl⟩, fun h => by
   have : ¬ a.take b.length = b := fun e => by have := congrArg List.length e; simp at this; omega
   simp [yfv, this]⟩
theorem yhd : zcs Tryz.prog (ymp std) := by
 intro xs p r h hp
 dsimp only [ymp] at h |-
 split at h <;> cases h
 try simp only [L2, L3, std] at hp |-
 rename_i a b
 refine zab (T := tt) (S := fun L => zbi [zv7 L]) (lo := noA) (lb := noA) 5 (fn := Tryz.f82) rfl rfl (by kernel_rfl) (by kernel_rfl) rfl zah (za9 ⟨zql, trivial⟩) (by kernel_rfl) ?_
 (intro L P1 Q1 hL hP hQ; cbv; subst hL; simp only [L2, L3, std, syT]; subst hQ)
 (simp only [syS, reduceCtorEq, Int.reduceToNat, Int.reduceAdd, Int.reduceSub])
 exact hp
def toS : AV -> List UInt8
 | .str s => s
 | _ => []
def zfk (n : Nat) (get : Nat -> Nat -> AV) : List (List UInt8) := (List.range n).map fun i => toS (get i 0)
theorem ytt {h : Array Obj} {D : Nat -> Prop} {x y : AV} {vs : Array Value} (hr : RL h D zaz [x, y] vs) : ∃ a b, vs = #[a, b] /\ R h D zaz x a /\ R h D zaz y b := by
 obtain ⟨hl, hr⟩ := hr
 obtain ⟨a, b, ha⟩ : ∃ a b, vs.toList = [a, b] := by
   have hl : vs.toList.length = 2 := by simpa using hl.symm
   match vs.toList, hl with
   | [a, b], _ => exact ⟨a, b, rfl⟩
 have : vs = #[a, b] := by rw [<- Array.toArray_toList (xs := vs), ha]
 subst this
 exact ⟨a, b, rfl, hr 0 x a rfl rfl, hr 1 y b rfl rfl⟩
def zpj (x : AV) : List UInt8 := match x with
 | .lst _ n get => (zfk n get).flatten
 | _ => []
def zh9 (x : AV) : Prop := match x with
 | .lst 1 n get => (∀ i, i < n -> ∃ s, get i 0 = .str s) /\ n <= 1000000 /\ (zfk n get).flatten.length <= 1000000
 | .nils => True
 | _ => False
theorem zrf (l : List (List UInt8)) : Lib.join l [] = l.flatten := by
 unfold Lib.join
 induction l with
 | nil => rfl
 | cons x l ih =>
   cases l with
   | nil => simp
   | cons y l => rw [List.intercalate_cons_cons, ih]; simp
def zwm (L : zaa) : zcl := (94, fun xs => match xs with | [x, .str []] => some (L zh9 x, .str (L zpj x)) | _ => none)
theorem zre : zcs Tryz.prog (zwm std) := by
 intro xs p r h hp
 dsimp only [zwm] at h |-
 split at h <;> cases h
 try simp only [L2, L3, std] at hp |-
 rename_i x
 have hp : zh9 x := hp
 intro D w vs hD hxs hg
 obtain ⟨a, b, rfl, rx, ry⟩ := ytt hxs
 obtain rfl := ya2 ry
 unfold zdv
 rw [zcn (fn := Tryz.f94) rfl (by kernel_rfl) rfl]
 have fin : ∀ (l : List UInt8), l = zpj x -> (∀ w', Below w.heap.size w w' -> ∃ v D', Ending.returned (.string ⟨l.toArray⟩) = .returned v /\ Below w.heap.size w w' /\ (∀ b, D b -> D' b) /\ (∀ b, D' b -> D b \/ (w.heap.size <= b /\ b < w'.heap.size)) /\ R w'.heap D' zaz (.str (zpj x)) v) := by
   rintro l rfl w' hw
   exact ⟨_, D, rfl, hw, fun _ h => h, fun b hb => .inl hb, ya1 _ _ _ _⟩
 have none_ : zpj x = [] -> ∀ (a : Option Addr) (c : Nat), Calls Tryz.prog 94 #[.slice a 0 c, .string ⟨#[]⟩] w fun e w' => ∃ v D', e = .returned v /\ Below w.heap.size w w' /\ (∀ b, D b -> D' b) /\ (∀ b, D' b -> D b \/ (w.heap.size <= b /\ b < w'.heap.size)) /\ R w'.heap D' zaz (.str (zpj x)) v := by
   intro h0 a c
   refine (Tryz.strings_Join_none a c ⟨#[]⟩ w).mono ?_
   rintro e w' ⟨rfl, rfl⟩
   exact fin [] h0.symm _ (Below.refl _ _)
 unfold zh9 at hp
 split at hp
 · rename_i n get _
   obtain ⟨h1, h2, h3⟩ := hp
   cases rx with
   | lst0 => exact none_ rfl _ _
   | lst _ _ _ b o cap us hD0 hc hv h1' hr =>
     have hl : (zfk n get).length = n := by rw [zfk, List.length_map, List.length_range]
     have hq : ∀ j x, ((zfk n get).map (fun s : List UInt8 => (⟨s.toArray⟩ : ByteArray)))[j]? = some x -> w.cell? ⟨b, o + j, none⟩ = some (.string x) := by
       intro j x hj
       have hjn : j < n := by
         have := (List.getElem?_eq_some_iff.1 hj).1
         rw [List.length_map, hl] at this
         exact this
       obtain ⟨s, hs⟩ := h1 j hjn
       have r := hr j 0 hjn (by omega)
       rw [hs] at r
       have hv := hv j 0 hjn (by omega)
       rw [ya2 r, Nat.mul_one, Nat.add_zero] at hv
       rw [zhf, hv]
       have e2 : (zfk n get)[j]? = some s := by rw [zfk, List.getElem?_map, List.getElem?_range hjn, Option.map_some, hs]; rfl
       rw [List.getElem?_map, e2] at hj
       cases hj
       rfl
     have hm : ((zfk n get).map (fun s : List UInt8 => (⟨s.toArray⟩ : ByteArray))).map (·.data.toList) = zfk n get := by
       rw [List.map_map]
       exact List.map_id' _
     have := Tryz.strings_Join b o cap ((zfk n get).map (fun s : List UInt8 => (⟨s.toArray⟩ : ByteArray))) ⟨#[]⟩ w hq (hD b hD0) (by rw [List.length_map, hl]; omega) (by rw [List.length_map, hl]; exact hc) (by rw [hm]; show (Lib.join _ []).length <= _; rw [zrf]; omega)
     rw [hm, List.length_map, hl] at this
     refine this.mono ?_
     rintro e w' ⟨rfl, hw⟩
     exact fin _ (by show Lib.join _ [] = _; rw [zrf]; rfl) _ hw
 · cases rx
   exact none_ rfl _ _
 · exact hp.elim
def yvh (s : List UInt8) (c : Int) : List UInt8 := (List.replicate c.toNat s).flatten
theorem ybe (s : List UInt8) : ∀ c : Nat, Lib.repeatL s c = (List.replicate c s).flatten
 | 0 => rfl
 | c + 1 => by rw [Lib.repeatL, ybe s c, List.replicate_succ, List.flatten_cons]
def ymg (s : List UInt8) (c : Int) : Prop := 0 <= c /\ c <= 1000000 /\ s.length <= 1000000
def yme (L : zaa) : zcl := (110, fun xs => match xs with | [.str s, .int .i64 c] => some (L2 L ymg s c, .str (L2 L yvh s c)) | _ => none)
theorem yh5 : zcs Tryz.prog (yme std) := by
 intro xs p r h hp
 dsimp only [yme] at h |-
 split at h <;> cases h
 try simp only [L2, L3, std] at hp |-
 rename_i s c
 obtain ⟨h0, h1, h2⟩ : ymg s c := hp
 obtain ⟨k, rfl⟩ := yci h0
 refine zf6 (fn := Tryz.f110) rfl rfl (by kernel_rfl) (ytu (zlf _) (zil _ _)) (fun h D => ya1 h D _ _) (fun w => ?_)
 have hs : (⟨s.toArray⟩ : ByteArray).size = s.length := by show s.toArray.size = s.length; simp
 have := Tryz.strings_Repeat ⟨s.toArray⟩ k w (by omega) (by
   rw [hs]
   have : s.length * k <= 1000000 * 1000000 := Nat.mul_le_mul h2 (by omega)
   omega)
 refine this.mono ?_
 rintro e w' ⟨rfl, hw⟩
 refine ⟨?_, hw⟩
 show Ending.returned (.string ⟨(Lib.repeatL s k).toArray⟩) = _
 rw [ybe]; rfl
def yc1 (s : List UInt8) : List UInt8 := s ++ [128] ++ List.replicate ((64 - (s.length + 9) % 64) % 64) 0 ++ ybo (s.length * 8) 8
theorem ybd (n : Nat) : (List.replicate n [(0 : UInt8)]).flatten = List.replicate n 0 := by
 induction n with
 | zero => rfl
 | succ n ih => rw [List.replicate_succ, List.flatten_cons, ih, List.replicate_succ]; rfl
theorem zlo (e n : Int) (h0 : 0 <= n) (h8 : n <= 8) : (ybo e n).length = n.toNat := by
 rw [ybo, zlp]
 unfold cl8
 omega
theorem yvp (n : Nat) (h : n <= 1000000) : ((64 - ((((n : Int) + 1 + 9223372036854775808) % 18446744073709551616 - 9223372036854775808 + 8 + 9223372036854775808) % 18446744073709551616 - 9223372036854775808).tmod 64 + 9223372036854775808) % 18446744073709551616 - 9223372036854775808).tmod 64 = (((64 - (n + 9) % 64) % 64 : Nat) : Int) := by
 have h1 : ((((n : Int) + 1 + 9223372036854775808) % 18446744073709551616 - 9223372036854775808 + 8 + 9223372036854775808) % 18446744073709551616 - 9223372036854775808) = ((n + 9 : Nat) : Int) := by omega
 rw [h1, Int.tmod_eq_emod_of_nonneg (a := ((n + 9 : Nat) : Int)) (by omega)]
 have h2 : (64 - ((n + 9 : Nat) : Int) % 64 + 9223372036854775808) % 18446744073709551616 - 9223372036854775808 = ((64 - (n + 9) % 64 : Nat) : Int) := by omega
 rw [h2, Int.tmod_eq_emod_of_nonneg (by omega)]
 omega
theorem ymf {k : Nat} (h : k < 64) : ymg [0] (k : Int) := ⟨Int.natCast_nonneg _, by omega, by decide⟩
theorem len8 (n : Nat) (h : n <= 1000000) : (n : Int) % 18446744073709551616 * 8 % 18446744073709551616 = (n : Int) * 8 := by omega
def zob (L : zaa) : zcl := (93, fun xs => match xs with | [.str s] => some (L2 L upto 1000000 s, .str (L yc1 s)) | _ => none)
theorem zn8 : zcs Tryz.prog (zob std) := by
 intro xs p r h hp
 dsimp only [zob] at h |-
 split at h <;> cases h
 try simp only [L2, L3, std] at hp |-
 rename_i s
 refine zab (T := tt) (S := fun L => zbi [yme L, zy5 L]) (lo := noA) (lb := noA) 5 (fn := Tryz.f93) rfl rfl (by kernel_rfl) (by kernel_rfl) rfl zah (za9 ⟨yh5, zkv, trivial⟩) (by kernel_rfl) ?_
 have hl : s.length <= 1000000 := hp
 have hpn := yvp s.length hl
 have hl8 := len8 s.length hl
 (intro L P1 Q1 hL hP hQ; cbv; subst hL; simp only [L2, L3, std, syT]; subst hQ)
 (simp only [syS, reduceCtorEq, Int.reduceToNat, Int.reduceAdd, Int.reduceSub])
 rw [hpn, hl8]
 have hz : yc1 s = s ++ [128] ++ List.replicate ((64 - (s.length + 9) % 64) % 64) 0 ++ ybo (s.length * 8) 8 := rfl
 rw [hz]
 have hk : (64 - (s.length + 9) % 64) % 64 < 64 := Nat.mod_lt _ (by decide)
 generalize (64 - (s.length + 9) % 64) % 64 = k at hk |-
 have hr : yvh [0] (k : Int) = List.replicate k 0 := by
   rw [yvh, Int.toNat_natCast, ybd]
 rw [hr]
 have hput := zlo ((s.length : Int) * 8) 8 (by decide) (by decide)
 simp only [List.length_append, List.length_replicate, List.length_cons, List.length_nil, hput]
 refine ⟨by omega, by decide, by decide, ymf hk, by omega, ⟨by omega, by omega, by decide, by decide⟩, by omega, trivial⟩
def yuj (s : List UInt8) : Nat := (64 - (s.length + 9) % 64) % 64
def zkf (n : Nat) : List Int := znv.take n
def frA (L : zaa) : Nat -> St -> Option Ann := fun id st => match id with
 | 0 => some ⟨Nat, fun n => [(5, .int .i64 (L za8 n))], fun n => [(1, .row 143 1 8 (fun i _ => .int .u32 (L2 L za7 (L zkf n) i)))], [0, 1, 4], [0], fun n => L (fun n : Nat => n <= 8) n, fun n => L (fun n : Nat => 8 - n) n⟩
 | _ => none
def w8 (g : Nat -> AV) : AV := .agg [g 0, g 1, g 2, g 3, g 4, g 5, g 6, g 7]
theorem yj8 : ∀ n : _root_.Fin 8, zh8 (za7 [2, 3, 5, 7, 11, 13, 17, 19] n.val) false = za7 znv n.val := by decide +kernel
theorem ye2 {n n' i : Nat} (hn : n' = n + 1) (h : n < 8) (hi : i < 8) : over std n 0 1 [.int .u32 (zh8 (za7 [2, 3, 5, 7, 11, 13, 17, 19] n) false)] (fun i x => .int .u32 (za7 (zkf n) i)) i 0 = .int .u32 (za7 (zkf n') i) := by
 rw [zgf, if_pos ⟨Nat.le_refl _, by omega⟩, yj8 ⟨n, h⟩]
 subst hn
 have hl : znv.length = 8 := rfl
 by_cases hi2 : i = n
 · subst hi2
   rw [za6]
   show AV.int .u32 (za7 znv i) = _
   rw [zkf, za7, za7, List.getD_eq_getElem?_getD, List.getD_eq_getElem?_getD, List.getElem?_take_of_lt (by omega)]
 · rw [zaq hi2]
   show AV.int .u32 (za7 (zkf n) i) = _
   congr 1
   rw [zkf, zkf, za7, za7, List.getD_eq_getElem?_getD, List.getD_eq_getElem?_getD]
   by_cases hlt : i < n
   · rw [List.getElem?_take_of_lt hlt, List.getElem?_take_of_lt (by omega)]
   · rw [List.getElem?_eq_none (by rw [List.length_take]; omega), List.getElem?_eq_none (by rw [List.length_take]; omega)]
def zpo (L : zaa) : zcl := (95, fun xs => match xs with | [] => some (True, w8 fun i => .int .u32 (L2 L za7 znv i)) | _ => none)
theorem znu : zcs Tryz.prog (zpo std) := by
 intro xs p r h hp
 dsimp only [zpo] at h |-
 split at h <;> cases h
 try simp only [L2, L3, std] at hp |-
 refine zab (T := tt) (S := fun L => zbi [zpa L]) (lo := frA) (lb := noA) 5 (fn := Tryz.f95) rfl rfl (by kernel_rfl) (by kernel_rfl) rfl zah (za9 ⟨znl, trivial⟩) (by kernel_rfl) ?_
 intro L P' Q' hL hP hQ
 (cbv; try simp only [syT, true_and, and_true])
 refine ⟨⟨0, ?_⟩, fun n hn => ?_⟩
 · (cbv; try simp only [syT, true_and, and_true])
   (subst hL; subst hQ; simp only [L2, L3, std] at *; try simp only [syS, reduceCtorEq, Int.reduceToNat, Int.reduceAdd, Int.reduceSub] at *)
   exact ⟨fun i j hi hj => by
     have : j = 0 := by omega
     subst this
     simp [zkf, za7]; rfl, by omega⟩
 · obtain ⟨n', hn'⟩ : ∃ n' : Nat, n' = n + 1 := ⟨_, rfl⟩
   (cbv; try simp only [syT, true_and, and_true])
   refine ⟨fun h1 => ⟨?_, ?_, n', ?_⟩, fun h1 => ?_⟩
   · (subst hL; subst hQ; simp only [L2, L3, std] at *; try simp only [syS, reduceCtorEq, Int.reduceToNat, Int.reduceAdd, Int.reduceSub] at *)
     omega
   · (subst hL; subst hQ; simp only [L2, L3, std] at *; try simp only [syS, reduceCtorEq, Int.reduceToNat, Int.reduceAdd, Int.reduceSub] at *)
     omega
   · (cbv; try simp only [syT, true_and, and_true])
     (subst hL; subst hQ; simp only [L2, L3, std] at *; try simp only [syS, reduceCtorEq, Int.reduceToNat, Int.reduceAdd, Int.reduceSub] at *)
     have h1 : n < 8 := by omega
     refine ⟨fun i j hi hj => ?_, by omega, by omega, by omega⟩
     have : j = 0 := by omega
     subst this
     exact ye2 hn' h1 hi
   · unfold w8 at hQ
     (subst hL; subst hQ; simp only [L2, L3, std] at *; try simp only [syS, reduceCtorEq, Int.reduceToNat, Int.reduceAdd, Int.reduceSub] at *)
     have : n = 8 := by omega
     subst this
     exact ⟨rfl, rfl, rfl, rfl, rfl, rfl, rfl, rfl⟩
def rlS (k : Int) : Int := zzk .u64 (IntKind.u64.wrap k) 31
def rlZ (x k : Int) : Int := bor .u32 (yfq .u32 x (rlS k)) (zo7 .u32 x (zkq .u64 32 (rlS k)))
def yvc (L : zaa) : zcl := (124, fun xs => match xs with | [.int .u32 x, .int .i64 k] => some (True, .int .u32 (L2 L rlZ x k)) | _ => none)
theorem zi3 (a : Int) : 0 <= IntKind.u64.wrap a := Int.emod_nonneg _ (by decide)
theorem zy0 (k : Int) : 0 <= rlS k := zi3 _
theorem ymd : zcs Tryz.prog (yvc std) := by
 intro xs p r h hp
 dsimp only [yvc] at h |-
 split at h <;> cases h
 try simp only [L2, L3, std] at hp |-
 rename_i x k
 refine zab (T := tt) (S := noS) (lo := noA) (lb := noA) 5 (fn := Tryz.f124) rfl rfl (by kernel_rfl) (by kernel_rfl) rfl zah (zdd _) (by kernel_rfl) ?_
 (intro L P1 Q1 hL hP hQ; cbv; subst hL; simp only [L2, L3, std, syT]; subst hQ)
 refine ⟨decide_eq_true (zy0 k), decide_eq_true (zi3 _), ?_⟩
 rw [zgo]
 rfl
def rotZ (x a b c : Int) (sh : Bool) : Int := yjn .u32 (yjn .u32 (rlZ x (zkq .i64 0 a)) (rlZ x (zkq .i64 0 b))) (if sh then zo7 .u32 x c else rlZ x (zkq .i64 0 c))
def yrc (t : Int × Int × Int × Int × Bool) : Int := rotZ t.1 t.2.1 t.2.2.1 t.2.2.2.1 t.2.2.2.2
def ymc (L : zaa) : zcl := (115, fun xs => match xs with | [.int .u32 x, .int .i64 a, .int .i64 b, .int .i64 c, .bool sh] => some (L (fun c : Int => 0 <= c) c, .int .u32 (L yrc (x, a, b, c, sh))) | _ => none)
theorem ygz : zcs Tryz.prog (ymc std) := by
 intro xs p r h hp
 dsimp only [ymc] at h |-
 split at h <;> cases h
 try simp only [L2, L3, std] at hp |-
 rename_i x a b c sh
 have hc : 0 <= c := hp
 refine zab (T := tt) (S := fun L => zbi [yvc L]) (lo := noA) (lb := noA) 5 (fn := Tryz.f115) rfl rfl (by kernel_rfl) (by kernel_rfl) rfl zah (za9 ⟨ymd, trivial⟩) (by kernel_rfl) ?_
 (intro L P1 Q1 hL hP hQ; cbv; subst hL; simp only [L2, L3, std, syT]; subst hQ)
 refine ⟨trivial, fun h => ⟨decide_eq_true hc, trivial, trivial, ?_⟩, fun h => ⟨trivial, trivial, ?_⟩⟩
 · rw [zgo]
   subst h; rfl
 · rw [zgo]
   subst h; rfl
def zzp (s : List UInt8) (n : Int) : Int := IntKind.u32.wrap (getZ (yq0 s (zlc .i64 4 n) (zcc .i64 (zlc .i64 4 n) 4)))
def yhn (l : List Int) (n : Nat) : Int := zcc .u32 (zcc .u32 (zcc .u32 (za7 l (n - 16)) (yrc (za7 l (n - 15), 7, 18, 3, true))) (za7 l (n - 7))) (yrc (za7 l (n - 2), 17, 19, 10, true))
def wN (s : List UInt8) : Nat -> List Int
 | 0 => []
 | n + 1 => wN s n ++ [if n < 16 then zzp s n else yhn (wN s n) n]
def ya3 (v : List Int) (k w : Int) : Int := zcc .u32 (zcc .u32 (zcc .u32 (zcc .u32 (za7 v 7) (yrc (za7 v 4, 6, 11, 25, false))) (bor .u32 (zzk .u32 (za7 v 4) (za7 v 5)) (zzk .u32 (yjn .u32 4294967295 (za7 v 4)) (za7 v 6)))) k) w
def yls (v : List Int) : Int := zcc .u32 (yrc (za7 v 0, 2, 13, 22, false)) (bor .u32 (zzk .u32 (za7 v 0) (za7 v 1)) (zzk .u32 (za7 v 2) (bor .u32 (za7 v 0) (za7 v 1))))
def ygg (v : List Int) (k w : Int) : List Int :=
 [zcc .u32 (ya3 v k w) (yls v), za7 v 0, za7 v 1, za7 v 2, zcc .u32 (za7 v 3) (ya3 v k w), za7 v 4, za7 v 5, za7 v 6]
def vN (w h : List Int) : Nat -> List Int
 | 0 => h
 | n + 1 => ygg (vN w h n) (za7 zrd n) (za7 w n)
def vS (s : List UInt8) (h : List Int) (n : Nat) : List Int := vN (wN s 64) h n
def hN (h v : List Int) (n : Nat) : List Int := (List.range 8).map fun i => if i < n then zcc .u32 (za7 h i) (za7 v i) else za7 h i
def hS (s : List UInt8) (h : List Int) (n : Nat) : List Int := hN h (vS s h 64) n
def yul (h : List Int) (s : List UInt8) : List Int := hS s h 8
theorem zzu (s : List UInt8) : ∀ n, (wN s n).length = n
 | 0 => rfl
 | n + 1 => by rw [wN, List.length_append, zzu s n]; rfl
theorem yhk {l : List Int} {v : Int} (i : Nat) : za7 (l ++ [v]) i = if i = l.length then v else za7 l i := by
 rw [za7, za7, List.getD_eq_getElem?_getD, List.getD_eq_getElem?_getD]
 by_cases h : i < l.length
 · rw [List.getElem?_append_left h, if_neg (by omega)]
 · rw [List.getElem?_append_right (by omega)]
   by_cases h2 : i = l.length
   · rw [if_pos h2, h2, Nat.sub_self]; rfl
   · rw [if_neg h2, List.getElem?_eq_none (by simp; omega), List.getElem?_eq_none (by omega)]
theorem yfe {l : List Int} {n : Nat} (v : Int) (hl : l.length = n) (i : Nat) : over std n 0 1 [.int .u32 v] (fun i _ => .int .u32 (za7 l i)) i 0 = .int .u32 (za7 (l ++ [v]) i) := by
 rw [zgf, if_pos ⟨Nat.le_refl _, by omega⟩, yhk, hl]
 by_cases hi2 : i = n
 · rw [if_pos hi2, hi2, za6]; rfl
 · rw [if_neg hi2, zaq hi2]; rfl
theorem yv0 {s : List UInt8} {n n' : Nat} (h : n' = n + 1) (h2 : n < 16) : wN s n' = wN s n ++ [zzp s n] := by
 subst h; rw [wN, if_pos h2]
theorem yv1 {s : List UInt8} {n n' : Nat} (h : n' = n + 1) (h2 : ¬ n < 16) : wN s n' = wN s n ++ [yhn (wN s n) n] := by
 subst h; rw [wN, if_neg h2]
def mixA (L : zaa) (h : List Int) (s : List UInt8) : Nat -> St -> Option Ann := fun id st => match id with
 | 0 => some ⟨Nat, fun n => [(17, .int .i64 (L za8 n))], fun n => [(7, .row 145 1 64 (fun i _ => .int .u32 (L2 L za7 (L2 L wN s n) i)))], [1, 2, 3, 6, 7], [3, 6], fun n => L (fun n : Nat => n <= 16) n, fun n => L (fun n : Nat => 16 - n) n⟩
 | 2 => some ⟨Nat, fun n => [(11, .int .i64 (L za8 n))], fun n => [(7, .row 145 1 64 (fun i _ => .int .u32 (L2 L za7 (L2 L wN s n) i)))], [1, 2, 3, 6, 7], [3, 6], fun n => L (fun n : Nat => 16 <= n /\ n <= 64) n, fun n => L (fun n : Nat => 64 - n) n⟩
 | 4 => some ⟨Nat, fun n => [(64, .int .i64 (L za8 n))], fun n => [(12, .row 143 1 8 (fun i _ => .int .u32 (L2 L za7 (L3 L vS s h n) i)))], [1, 2, 3, 6, 7, 12], [3, 6, 7], fun n => L (fun n : Nat => n <= 64) n, fun n => L (fun n : Nat => 64 - n) n⟩
 | 6 => some ⟨Nat, fun n => [(127, .int .i64 (L za8 n))], fun n => [(3, .row 143 1 8 (fun i _ => .int .u32 (L2 L za7 (L3 L hS s h n) i)))], [3, 6, 12], [6, 12], fun n => L (fun n : Nat => n <= 8) n, fun n => L (fun n : Nat => 8 - n) n⟩
 | _ => none
def ysk (n : Nat) (g : Nat -> AV) : Prop := n = 64 /\ ∀ j, j < 64 -> g j = .int .u32 (za7 zrd j)
def yvy (x : List Int × List UInt8) : List Int := yul x.1 x.2
def w8L (L : zaa) (l : List Int) : AV := .agg [.int .u32 (L2 L za7 l 0), .int .u32 (L2 L za7 l 1), .int .u32 (L2 L za7 l 2), .int .u32 (L2 L za7 l 3), .int .u32 (L2 L za7 l 4), .int .u32 (L2 L za7 l 5), .int .u32 (L2 L za7 l 6), .int .u32 (L2 L za7 l 7)]
def yht (L : zaa) : zcl := (97, fun xs => match xs with
 | [.agg [.int .u32 a0, .int .u32 a1, .int .u32 a2, .int .u32 a3, .int .u32 a4, .int .u32 a5, .int .u32 a6, .int .u32 a7], .iptr n g, .str s] => some (L2 L ysk n g /\ L (fun s : List UInt8 => s.length = 64) s, w8L L (L yvy ([a0, a1, a2, a3, a4, a5, a6, a7], s)))
 | _ => none)
theorem yvg {h : Array Obj} {D : Nat -> Prop} {μ : Mu} {a x y : AV} {r : List AV} {vs : Array Value} (e : ∀ v, R h D μ x v -> R h D μ y v) (hr : RL h D μ (a :: x :: r) vs) : RL h D μ (a :: y :: r) vs := by
 refine ⟨by rw [<- hr.1]; rfl, fun i z v hz hv => ?_⟩
 match i, hz with
 | 0, hz => exact hr.2 0 z v hz hv
 | 1, hz => cases hz; exact e v (hr.2 1 x v rfl hv)
 | i + 2, hz => exact hr.2 (i + 2) z v hz hv
theorem yjs {P : Program} {f : FuncId} {xs ys : List AV} {r : AV} (h : ∀ h D vs, RL h D zaz xs vs -> RL h D zaz ys vs) (ha : zaf P f ys r) : zaf P f xs r := fun D w vs hD hx => ha D w vs hD (h _ _ _ hx)
theorem ydi {h : Array Obj} {D : Nat -> Prop} {μ : Mu} {n : Nat} {g g' : Nat -> AV} {v : Value} (r : R h D μ (.iptr n g) v) (e : ∀ j, j < n -> g j = g' j) : R h D μ (.iptr n g') v := by
 cases r with
 | iptr _ _ b o vs hD hv h1 hr => exact .iptr n g' b o vs hD hv h1 (fun j hj => by rw [<- e j hj]; exact hr j hj)
theorem zjv {n n' : Nat} (h : n' = n + 1) (h2 : n < 1000) : zcc .i64 (za8 n) 1 = za8 n' := by
 subst h; unfold za8; rw [zcc, zct]; omega
theorem zp0 {n k : Nat} {c : Int} (hc : c = (k : Int)) (h : k <= n) (h2 : n < 1000) : (zkq .i64 (za8 n) c).toNat = n - k := by
 subst hc; unfold za8; rw [zkq, zct]; omega
theorem zam {n k : Nat} (h : ilt (za8 n) (za8 k) = true) : n < k := by
 have := of_decide_eq_true h
 unfold za8 at this; omega
theorem ze5 {n k : Nat} (h : ilt (za8 n) (za8 k) = false) : ¬ n < k := by
 have := of_decide_eq_false h
 unfold za8 at this; omega
theorem ze9 {n k : Nat} (h : n < k) : inR (za8 n) (za8 k) = true := by rw [zfn]; exact ⟨Int.natCast_nonneg _, by unfold za8; omega⟩
theorem zrm {n : Nat} (h : n < 1000) : zlc .i64 4 (za8 n) = ((4 * n : Nat) : Int) /\ zcc .i64 (zlc .i64 4 (za8 n)) 4 = ((4 * n + 4 : Nat) : Int) := by
 have e : zlc .i64 4 (za8 n) = ((4 * n : Nat) : Int) := by rw [zlc, zct, za8]; omega
 rw [e]
 refine ⟨rfl, ?_⟩
 rw [zcc, zct]; omega
theorem w_in {s : List UInt8} {n : Nat} (h : n < 16) (hs : s.length = 64) : inS (zlc .i64 4 (za8 n)) (zcc .i64 (zlc .i64 4 (za8 n)) 4) (slen s) = true := by
 obtain ⟨e1, e2⟩ := zrm (n := n) (by omega)
 rw [e2, e1, slen, hs, yso]
 exact ⟨by omega, by omega, by omega⟩
theorem yuz {s : List UInt8} {n : Nat} (h : n < 16) (hs : s.length = 64) : yj1 (yq0 s (zlc .i64 4 (za8 n)) (zcc .i64 (zlc .i64 4 (za8 n)) 4)) := by
 obtain ⟨e1, e2⟩ := zrm (n := n) (by omega)
 rw [e2, e1, yq0, yj1, List.length_drop, List.length_take, hs, Int.toNat_natCast, Int.toNat_natCast]
 omega
theorem zpl {n k : Nat} {c : Int} (hc : c = (k : Int)) (h : k <= n) (h2 : n < 64) : inR (zkq .i64 (za8 n) c) (za8 64) = true := by
 subst hc
 have e : zkq .i64 (za8 n) (k : Int) = za8 (n - k) := by unfold za8; rw [zkq, zct]; omega
 rw [e]
 exact ze9 (by omega)
theorem yvb {a0 a1 a2 a3 a4 a5 a6 a7 : Int} {i : Nat} {s : List UInt8} (hi : i < 8) : AV.int .u32 (za7 [za7 [a0, a1, a2, a3, a4, a5, a6, a7] 0, za7 [a0, a1, a2, a3, a4, a5, a6, a7] 1, za7 [a0, a1, a2, a3, a4, a5, a6, a7] 2, za7 [a0, a1, a2, a3, a4, a5, a6, a7] 3, za7 [a0, a1, a2, a3, a4, a5, a6, a7] 4, za7 [a0, a1, a2, a3, a4, a5, a6, a7] 5, za7 [a0, a1, a2, a3, a4, a5, a6, a7] 6, za7 [a0, a1, a2, a3, a4, a5, a6, a7] 7] i) = .int .u32 (za7 (vS s [a0, a1, a2, a3, a4, a5, a6, a7] 0) i) := rfl
theorem ygf {v : List Int} {k w : Int} {i : Nat} (hi : i < 8) : over std 0 0 1 [.int .u32 (zcc .u32 (ya3 v k w) (yls v))] (over std 4 0 1 [.int .u32 (zcc .u32 (za7 v 3) (ya3 v k w))] (fun i _ => zhv std (zdy 1 7 i) (.int .u32 (za7 v (0 + (i - 1)))) (.int .u32 (za7 v i)))) i 0 = .int .u32 (za7 (ygg v k w) i) := by
 unfold ygg
 generalize ya3 v k w = x
 generalize yls v = y
 match i, hi with
 | 0, _ => rfl
 | 1, _ => rfl
 | 2, _ => rfl
 | 3, _ => rfl
 | 4, _ => rfl
 | 5, _ => rfl
 | 6, _ => rfl
 | 7, _ => rfl
theorem yiy {h v : List Int} {n i : Nat} (hi : i < 8) : za7 (hN h v n) i = if i < n then zcc .u32 (za7 h i) (za7 v i) else za7 h i := by
 rw [hN, za7, List.getD_eq_getElem?_getD, List.getElem?_map, List.getElem?_range hi]; rfl
theorem yst {h v : List Int} {n n' i : Nat} (hn : n' = n + 1) (h8 : n < 8) (hi : i < 8) : over std n 0 1 [.int .u32 (zcc .u32 (za7 (hN h v n) n) (za7 v n))] (fun i _ => .int .u32 (za7 (hN h v n) i)) i 0 = .int .u32 (za7 (hN h v n') i) := by
 subst hn
 rw [zgf, if_pos ⟨Nat.le_refl _, by omega⟩, yiy hi, yiy h8, yiy hi, if_neg (Nat.lt_irrefl n)]
 by_cases hi2 : i = n
 · rw [hi2, za6, if_neg (Nat.lt_irrefl n), if_pos (Nat.lt_succ_self n)]; rfl
 · rw [zaq hi2]
   by_cases hlt : i < n
   · rw [if_pos hlt, if_pos (by omega)]; rfl
   · rw [if_neg hlt, if_neg (by omega)]; rfl
theorem hN_0 {h v : List Int} {n i : Nat} (hn : n = 0) (hi : i < 8) : AV.int .u32 (za7 h i) = .int .u32 (za7 (hN h v n) i) := by
 rw [yiy hi, hn, if_neg (Nat.not_lt_zero i)]
theorem ysx (m : List Int) : zed (w8L std m) (.agg [.int .u32 (za7 [za7 m 0, za7 m 1, za7 m 2, za7 m 3, za7 m 4, za7 m 5, za7 m 6, za7 m 7] 0), .int .u32 (za7 [za7 m 0, za7 m 1, za7 m 2, za7 m 3, za7 m 4, za7 m 5, za7 m 6, za7 m 7] 1),
   .int .u32 (za7 [za7 m 0, za7 m 1, za7 m 2, za7 m 3, za7 m 4, za7 m 5, za7 m 6, za7 m 7] 2), .int .u32 (za7 [za7 m 0, za7 m 1, za7 m 2, za7 m 3, za7 m 4, za7 m 5, za7 m 6, za7 m 7] 3), .int .u32 (za7 [za7 m 0, za7 m 1, za7 m 2, za7 m 3, za7 m 4, za7 m 5, za7 m 6, za7 m 7] 4),
   .int .u32 (za7 [za7 m 0, za7 m 1, za7 m 2, za7 m 3, za7 m 4, za7 m 5, za7 m 6, za7 m 7] 5), .int .u32 (za7 [za7 m 0, za7 m 1, za7 m 2, za7 m 3, za7 m 4, za7 m 5, za7 m 6, za7 m 7] 6), .int .u32 (za7 [za7 m 0, za7 m 1, za7 m 2, za7 m 3, za7 m 4, za7 m 5, za7 m 6, za7 m 7] 7)]) := by
 unfold w8L
 simp only [sySet, L2, std]
 exact ⟨rfl, rfl, rfl, rfl, rfl, rfl, rfl, rfl, trivial⟩
theorem zvq : zcs Tryz.prog (yht std) := by
 intro xs p r h hp
 dsimp only [yht] at h |-
 split at h <;> cases h
 try simp only [L2, L3, std] at hp |-
 rename_i a0 a1 a2 a3 a4 a5 a6 a7 n g s
 obtain ⟨⟨hn, hg⟩, hs⟩ : ysk n g /\ s.length = 64 := hp
 subst hn
 obtain ⟨kf, hkf⟩ : ∃ kf : Nat -> Int, kf = za7 zrd := ⟨_, rfl⟩
 obtain ⟨hl, hhl⟩ : ∃ l : List Int, l = [a0, a1, a2, a3, a4, a5, a6, a7] := ⟨_, rfl⟩
 rw [<- hkf] at hg
 refine yjs (fun h D vs hr => yvg (fun v r => ydi r hg) hr) ?_
 rw [<- hhl]
 clear hg g
 refine zab (T := tt) (S := fun L => zbi [yod L, ymc L]) (lo := fun L => mixA L hl s) (lb := noA) 5 (fn := Tryz.f97) rfl rfl (by kernel_rfl) (by kernel_rfl) rfl zah (za9 ⟨yj0, ygz, trivial⟩) (by kernel_rfl) ?_
 obtain ⟨n0, hn0⟩ : ∃ n : Nat, n = 0 := ⟨_, rfl⟩
 obtain ⟨n1, hn1⟩ : ∃ n : Nat, n = 16 := ⟨_, rfl⟩
 intro L P' Q' hL hP hQ
 (cbv; try simp only [syT, true_and, and_true])
 refine ⟨⟨n0, ?_⟩, fun n hn => ?_⟩
 · (cbv; try simp only [syT, true_and, and_true])
   subst hL; subst hQ
   refine ⟨fun _ _ _ _ => trivial, fun _ _ _ _ => trivial, fun i j hi hj => ?_, fun _ _ => trivial, ?_, ?_⟩
   · have : j = 0 := by omega
     subst this; subst hn0; rfl
   · subst hn0; rfl
   · subst hn0; exact Nat.zero_le _
 obtain ⟨n', hn'⟩ : ∃ n' : Nat, n' = n + 1 := ⟨_, rfl⟩
 (cbv; try simp only [syT, true_and, and_true])
 refine ⟨fun h1 => ⟨?_, ?_, ?_, n', ?_⟩, fun h1 => ⟨⟨n1, ?_⟩, fun m hm => ?_⟩⟩
 · subst hL
   exact w_in (zam h1) hs
 · subst hL
   exact yuz (zam h1) hs
 · subst hL
   have h16 : n < 16 := zam h1
   exact ze9 (by omega)
 · (cbv; try simp only [syT, true_and, and_true])
   subst hL; subst hQ
   have h16 : n < 16 := zam h1
   refine ⟨fun _ _ _ _ => trivial, fun _ _ _ _ => trivial, fun i j hi hj => ?_, fun _ _ => trivial, ?_, ?_, ?_⟩
   · have : j = 0 := by omega
     subst this
     rw [show L2 std wN s n' = wN s n ++ [zzp s n] from yv0 hn' h16]
     exact yfe _ (zzu s n) i
   · exact zjv hn' (by omega)
   · show n' <= 16
     omega
   · show 16 - n' + 1 <= 16 - n
     omega
 · (cbv; try simp only [syT, true_and, and_true])
   subst hL; subst hQ
   have h16 : n = n1 := by
     have hn : n <= 16 := hn
     have h2 : ¬ n < 16 := ze5 h1
     omega
   subst h16
   refine ⟨fun _ _ _ _ => trivial, fun _ _ _ _ => trivial, fun _ _ _ _ => rfl, fun _ _ => trivial, ?_, ?_⟩
   · subst hn1; rfl
   · subst hn1; exact ⟨Nat.le_refl _, by decide⟩
 clear h1 hn hn' n' hn0 n0
 obtain ⟨m', hm'⟩ : ∃ m' : Nat, m' = m + 1 := ⟨_, rfl⟩
 obtain ⟨k0, hk0⟩ : ∃ k : Nat, k = 0 := ⟨_, rfl⟩
 (cbv; try simp only [syT, true_and, and_true])
 refine ⟨fun h1 => ⟨?_, ?_, ?_, ?_, ?_, ?_, ?_, m', ?_⟩, fun h1 => ⟨⟨k0, ?_⟩, fun k hk => ?_⟩⟩
 · subst hL; exact zpl (k := 16) rfl (Nat.le_trans (by decide) hm.1) (zam h1)
 · subst hL; exact zpl (k := 15) rfl (Nat.le_trans (by decide) hm.1) (zam h1)
 · subst hL; show (0 : Int) <= 3; decide
 · subst hL; exact zpl (k := 7) rfl (Nat.le_trans (by decide) hm.1) (zam h1)
 · subst hL; exact zpl (k := 2) rfl (Nat.le_trans (by decide) hm.1) (zam h1)
 · subst hL; show (0 : Int) <= 10; decide
 · subst hL; exact ze9 (zam h1)
 · (cbv; try simp only [syT, true_and, and_true])
   subst hL; subst hQ
   have h64 : m < 64 := zam h1
   have h16 : 16 <= m := hm.1
   refine ⟨fun _ _ _ _ => trivial, fun _ _ _ _ => trivial, fun i j hi hj => ?_, fun _ _ => trivial, ?_, ?_, ?_⟩
   · have : j = 0 := by omega
     subst this
     rw [show L2 std wN s m' = wN s m ++ [yhn (wN s m) m] from yv1 hm' (by omega)]
     rw [yhn, <- zp0 (n := m) (k := 16) (c := 16) rfl h16 (by omega), <- zp0 (n := m) (k := 15) (c := 15) rfl (by omega) (by omega), <- zp0 (n := m) (k := 7) (c := 7) rfl (by omega) (by omega), <- zp0 (n := m) (k := 2) (c := 2) rfl (by omega) (by omega)]
     exact yfe _ (zzu s m) i
   · exact zjv hm' (by omega)
   · exact ⟨by omega, by omega⟩
   · show 64 - m' + 1 <= 64 - m
     omega
 · (cbv; try simp only [syT, true_and, and_true])
   subst hL; subst hQ
   refine ⟨fun _ _ _ _ => trivial, fun _ _ _ _ => trivial, fun _ _ _ _ => trivial, fun i j hi hj => ?_, fun _ _ => trivial, ?_, ?_⟩
   · subst hk0; subst hhl
     exact yvb (s := s) hi
   · subst hk0; rfl
   · subst hk0; exact Nat.zero_le _
 have hm64 : m = 64 := by
   subst hL
   have : ¬ m < 64 := ze5 h1
   have : m <= 64 := hm.2
   omega
 subst hm64
 clear h1 hm hm' m' hk0 k0
 obtain ⟨k', hk'⟩ : ∃ k' : Nat, k' = k + 1 := ⟨_, rfl⟩
 obtain ⟨q0, hq0⟩ : ∃ q : Nat, q = 0 := ⟨_, rfl⟩
 (cbv; try simp only [syT, true_and, and_true])
 refine ⟨fun h1 => ⟨?_, ?_, ?_, ?_, ?_, ?_, ?_, ?_, ?_, ?_, ?_, ?_, ?_, ?_, ?_, ?_, ?_, ?_, ?_, ?_, ?_, ?_, k', ?_⟩, fun h1 => ⟨⟨q0, ?_⟩, fun q hq => ?_⟩⟩
 · subst hL; rfl
 · subst hL; rfl
 · subst hL; show (0 : Int) <= 25; decide
 · subst hL; rfl
 · subst hL; rfl
 · subst hL; rfl
 · subst hL; rfl
 · subst hL; exact ze9 (zam h1)
 · subst hL; exact ze9 (zam h1)
 · subst hL; rfl
 · subst hL; show (0 : Int) <= 22; decide
 · subst hL; rfl
 · subst hL; rfl
 · subst hL; rfl
 · subst hL; rfl
 · subst hL; rfl
 · subst hL; rfl
 · subst hL; rfl
 · subst hL; rfl
 · subst hL; rfl
 · subst hL; rfl
 · subst hL; rfl
 · (cbv; try simp only [syT, true_and, and_true])
   subst hL; subst hQ
   have h64 : k < 64 := zam h1
   refine ⟨fun _ _ _ _ => trivial, fun _ _ _ _ => trivial, fun _ _ _ _ => trivial, fun i j hi hj => ?_, fun _ _ => trivial, ?_, ?_, ?_⟩
   · have : j = 0 := by omega
     subst this
     have e : vS s hl k' = ygg (vS s hl k) (kf k) (za7 (wN s 64) k) := by subst hk'; subst hkf; rfl
     have ek : (za8 k).toNat = k := Int.toNat_natCast k
     simp only [L2, L3, std, ek, e]
     clear e
     generalize vS s hl k = v
     generalize wN s 64 = w
     exact ygf hi
   · exact zjv hk' (by omega)
   · show k' <= 64
     omega
   · show 64 - k' + 1 <= 64 - k
     omega
 · (cbv; try simp only [syT, true_and, and_true])
   subst hL; subst hQ
   have hk64 : k = 64 := by
     have : ¬ k < 64 := ze5 h1
     have : k <= 64 := hk
     omega
   subst hk64
   refine ⟨fun _ _ _ _ => trivial, fun _ _ _ _ => trivial, fun i j hi hj => ?_, ?_, ?_⟩
   · exact hhl ▸ hN_0 hq0 hi
   · subst hq0; rfl
   · subst hq0; exact Nat.zero_le _
 have hk64 : k = 64 := by
   subst hL
   have : ¬ k < 64 := ze5 h1
   have : k <= 64 := hk
   omega
 subst hk64
 clear h1 hk hk' k' hq0 q0
 obtain ⟨q', hq'⟩ : ∃ q' : Nat, q' = q + 1 := ⟨_, rfl⟩
 (cbv; try simp only [syT, true_and, and_true])
 refine ⟨fun h1 => ⟨?_, ?_, ?_, q', ?_⟩, fun h1 => ?_⟩
 · subst hL; exact ze9 (zam h1)
 · subst hL; exact ze9 (zam h1)
 · subst hL; exact ze9 (zam h1)
 · (cbv; try simp only [syT, true_and, and_true])
   subst hL; subst hQ
   have h8 : q < 8 := zam h1
   refine ⟨fun _ _ _ _ => trivial, fun _ _ _ _ => trivial, fun i j hi hj => ?_, ?_, ?_, ?_⟩
   · have : j = 0 := by omega
     subst this
     have ek : (za8 q).toNat = q := Int.toNat_natCast q
     simp only [L2, L3, std, ek, hS]
     exact yst hq' h8 hi
   · exact zjv hq' (by omega)
   · show q' <= 8
     omega
   · show 8 - q' + 1 <= 8 - q
     omega
 · subst hL; subst hQ
   have hq8 : q = 8 := by
     have : ¬ q < 8 := ze5 h1
     have : q <= 8 := hq
     omega
   subst hq8
   rw [show yvy (hl, s) = hS s hl 8 from rfl]
   simp only [std]
   generalize hS s hl 8 = m
   exact ysx m
def ytn (p : List UInt8) (n : Nat) : List UInt8 := (p.drop (64 * n)).take 64
def zq5 (p : List UInt8) : Nat -> List Int
 | 0 => znv
 | n + 1 => yul (zq5 p n) (ytn p n)
def yfw (m : List Int) : Nat -> List UInt8
 | 0 => []
 | n + 1 => yfw m n ++ ybo (IntKind.u64.wrap (za7 m n)) 4
def yqv (p : List UInt8) : List UInt8 := yfw (zq5 p (p.length / 64)) 8
def zj9 (p : List UInt8) (n : Nat) : List UInt8 := p.drop (64 * n)
def yfb (p : List UInt8) (n : Nat) : Prop := 64 * (n + 1) <= p.length
theorem zov (m : List Int) : ∀ n, (yfw m n).length = 4 * n
 | 0 => rfl
 | n + 1 => by rw [yfw, List.length_append, zov m n, zlo _ _ (by decide) (by decide)]; show 4 * n + 4 = _; omega
theorem zur (p : List UInt8) : (yqv p).length = 32 := zov _ 8
theorem zky (s : List UInt8) : (yc1 s).length % 64 = 0 /\ 64 <= (yc1 s).length /\ (yc1 s).length = s.length + 9 + yuj s := by
 have : (yc1 s).length = s.length + 9 + yuj s := by
   rw [yc1, List.length_append, List.length_append, List.length_append, List.length_replicate, zlo _ _ (by decide) (by decide)]
   show s.length + 1 + yuj s + 8 = _
   omega
 rw [this]
 unfold yuj
 omega
def zxc (x : AV) : List UInt8 := yqv (yc1 (zpj x))
def smB (L : zaa) (p : List UInt8) : Nat -> St -> Option Ann := fun id st => match id with
 | 0 => some ⟨Nat, fun n => [(3, .str (L2 L zj9 p n)), (4, .ref 4 0), (5, .ref 5 0)], fun n => [(5, .row 145 1 64 (fun i _ => .int .u32 (L2 L za7 zrd i))), (4, .row 143 1 8 (fun i _ => .int .u32 (L2 L za7 (L2 L zq5 p n) i)))], [2, 700005], [2], fun n => L2 L yfb p n, fun n => L2 L (fun (p : List UInt8) (n : Nat) => p.length - n) p n⟩
 | _ => none
def smA (L : zaa) (m : List Int) : Nat -> St -> Option Ann := fun id st => match id with
 | 0 => some ⟨Nat, fun n => [(23, .int .i64 (L za8 n)), (22, w8L L m)], fun n => [(6, .row 127 1 32 (fun i _ => .int .u8 (L2 L zac (L2 L yfw m n) i)))], [2, 6], [2], fun n => L (fun n : Nat => n <= 8) n, fun n => L (fun n : Nat => 8 - n) n⟩
 | _ => none
def ygd (L : zaa) : zcl := (81, fun xs => match xs with | [x] => some (L zh9 x, .arr 32 (fun j => .int .u8 (L2 L zac (L zxc x) j))) | _ => none)
theorem zl8 {p : List UInt8} {k : Nat} (h : yfb p k) : inC 64 (slen (zj9 p k)) = true := by
 have h : 64 * (k + 1) <= p.length := h
 rw [inC, slen, zj9, List.length_drop, Bool.and_eq_true, decide_eq_true_eq, decide_eq_true_eq]
 omega
theorem yf9 {p : List UInt8} {k : Nat} (h : yfb p k) : ((zj9 p k).take (64 : Int).toNat).length = 64 := by
 have h : 64 * (k + 1) <= p.length := h
 rw [zj9, List.length_take, List.length_drop]
 show min 64 _ = _
 omega
theorem zl9 {p : List UInt8} {k k' : Nat} (h : k' = k + 1) : (zj9 p k).drop (64 : Int).toNat = zj9 p k' := by
 subst h
 rw [zj9, zj9, List.drop_drop]; rfl
theorem zx1 {p : List UInt8} {k k' : Nat} (hp : p.length % 64 = 0) (h : k' = k + 1) (hn : ¬ (zj9 p k').length = 0) : yfb p k' := by
 rw [zj9, List.length_drop] at hn
 show 64 * (k' + 1) <= p.length
 omega
theorem yfa {p : List UInt8} {k k' : Nat} (hk : yfb p k) (h : k' = k + 1) (hn : (zj9 p k').length = 0) : k' = p.length / 64 := by
 have hk : 64 * (k + 1) <= p.length := hk
 rw [zj9, List.length_drop] at hn
 omega
theorem ztt {l : List Int} (h : l.length = 8) : [za7 l 0, za7 l 1, za7 l 2, za7 l 3, za7 l 4, za7 l 5, za7 l 6, za7 l 7] = l := by
 match l, h with
 | [a, b, c, d, e, f, g, h], _ => rfl
theorem yhu (h : List Int) (s : List UInt8) : (yul h s).length = 8 := by
 rw [yul, hS, hN, List.length_map, List.length_range]
theorem zga (p : List UInt8) : ∀ k, (zq5 p k).length = 8
 | 0 => rfl
 | k + 1 => yhu _ _
theorem zkt {p : List UInt8} {k k' : Nat} (h : k' = k + 1) : yvy ([za7 (zq5 p k) 0, za7 (zq5 p k) 1, za7 (zq5 p k) 2, za7 (zq5 p k) 3, za7 (zq5 p k) 4, za7 (zq5 p k) 5, za7 (zq5 p k) 6, za7 (zq5 p k) 7], (zj9 p k).take (64 : Int).toNat) = zq5 p k' := by
 rw [ztt (zga p k)]
 subst h
 rfl
theorem yk6 {l : List UInt8} (h : (!seq l []) = true) : ¬ l.length = 0 := by
 intro hl
 rw [List.eq_nil_of_length_eq_zero hl] at h
 exact absurd h (by decide)
theorem ya9 {l : List UInt8} (h : (!seq l []) = false) : l.length = 0 := by
 have : l = [] := by
   have h2 : seq l [] = true := by simpa using h
   simpa [seq] using h2
 rw [this]; rfl
theorem ykf {q : Nat} (h : q < 8) : inC (zlc .i64 4 (za8 q)) (za8 32) = true := by
 rw [(zrm (n := q) (by omega)).1, yo2]
 unfold za8
 omega
theorem yc4 (x : Int) : yhb (IntKind.u64.wrap x) 4 := by
 refine ⟨zi3 _, ?_, by decide, by decide⟩
 rw [zsj]; omega
theorem zvb {q : Nat} {x : Int} (h : q < 8) : zqh (List.length (ybo x 4)) (Nat.sub 32 (Int.toNat (zlc .i64 4 (za8 q)))) = true := by
 rw [(zrm (n := q) (by omega)).1, Int.toNat_natCast, zlo _ _ (by decide) (by decide), zqh, Bool.and_eq_true, zc9, zd7]
 show 0 < 32 - 4 * q /\ 4 <= 32 - 4 * q
 omega
theorem yc3 {m : List Int} {q q' : Nat} (hq : q' = q + 1) (h8 : q < 8) (i : Nat) : zhv std (zdy (Nat.add 0 (Int.toNat (zlc .i64 4 (za8 q)))) (List.length (ybo (IntKind.u64.wrap (za7 m q)) 4)) i)
   (.int .u8 (zoh (ybo (IntKind.u64.wrap (za7 m q)) 4) (za8 (Nat.sub i (Nat.add 0 (Int.toNat (zlc .i64 4 (za8 q)))))))) (.int .u8 (zac (yfw m q) i)) = .int .u8 (zac (yfw m q') i) := by
 subst hq
 rw [(zrm (n := q) (by omega)).1, Int.toNat_natCast, show Nat.add 0 (4 * q) = 4 * q from Nat.zero_add _, show yfw m (q + 1) = yfw m q ++ ybo (IntKind.u64.wrap (za7 m q)) 4 from rfl]
 have hl := zov m q
 have hp := zlo (IntKind.u64.wrap (za7 m q)) 4 (by decide) (by decide)
 generalize yfw m q = l at hl |-
 generalize ybo (IntKind.u64.wrap (za7 m q)) 4 = b at hp |-
 have hp : b.length = 4 := hp
 rw [hp, zdy]
 by_cases h1 : i < 4 * q
 · rw [show zbv (4 * q) i = false by rw [Bool.eq_false_iff, ne_eq, zd7]; omega, zpz (by omega)]; rfl
 · rw [show zbv (4 * q) i = true by rw [zd7]; omega, zpy (by omega), hl]
   by_cases h2 : i < 4 * q + 4
   · rw [zms h2]
     show AV.int .u8 (zoh b (za8 (i - 4 * q))) = _
     rw [zoh, za8, Int.toNat_natCast]; rfl
   · rw [zq1 h2]
     show AV.int .u8 (zac l i) = _
     rw [zac, zac, List.getD_eq_getElem?_getD, List.getD_eq_getElem?_getD, List.getElem?_eq_none (by omega), List.getElem?_eq_none (by omega)]
theorem ylp {n : Nat} {get : Nat -> Nat -> AV} (hp : zh9 (.lst 1 n get)) : zaf Tryz.prog 81 [.lst 1 n get] (.arr 32 (fun j => .int .u8 (L2 std zac (std zxc (.lst 1 n get)) j))) := by
 obtain ⟨p, hpp⟩ : ∃ p, p = yc1 (zpj (.lst 1 n get)) := ⟨_, rfl⟩
 obtain ⟨m, hm⟩ : ∃ m, m = zq5 p (p.length / 64) := ⟨_, rfl⟩
 have hlen : p.length % 64 = 0 /\ 64 <= p.length := by rw [hpp]; exact ⟨(zky _).1, (zky _).2.1⟩
 refine zab (T := tt) (S := fun L => zbi [zwm L, zob L, zpo L, zwi L, yht L, zy5 L]) (lo := fun L => smA L m) (lb := fun L => smB L p) 5 (fn := Tryz.f81) rfl rfl (by kernel_rfl) (by kernel_rfl) rfl zah (za9 ⟨zre, zn8, znu, zrc, zvq, zkv, trivial⟩) (by kernel_rfl) ?_
 obtain ⟨n0, hn0⟩ : ∃ n : Nat, n = 0 := ⟨_, rfl⟩
 intro L P' Q' hL hP hQ
 obtain ⟨q0, hq0⟩ : ∃ n : Nat, n = 0 := ⟨_, rfl⟩
 (cbv; try simp only [syT, true_and, and_true])
 refine ⟨fun k hk => ?_, ?_⟩
 · obtain ⟨k', hk'⟩ : ∃ k' : Nat, k' = k + 1 := ⟨_, rfl⟩
   (cbv; try simp only [syT, true_and, and_true])
   refine ⟨?_, ⟨⟨?_, ?_⟩, ?_, fun h1 => ⟨k', ?_⟩, fun h1 => ⟨⟨q0, ?_⟩, fun q hq => ?_⟩⟩⟩
   · subst hL; exact zl8 hk
   · subst hL; exact ⟨rfl, fun j hj => rfl⟩
   · subst hL; exact yf9 hk
   · subst hL; exact zl8 hk
   · (cbv; try simp only [syT, true_and, and_true])
     subst hL; subst hQ
     simp only [L2, std] at h1 |-
     rw [zl9 hk'] at h1 |-
     rw [zkt hk', ztt (zga _ _)]
     refine ⟨fun _ _ _ _ => trivial, fun _ _ _ _ => rfl, fun _ _ _ _ => trivial, rfl, zx1 hlen.1 hk' (yk6 h1), ?_⟩
     have hk : 64 * (k + 1) <= p.length := hk
     show p.length - k' + 1 <= p.length - k
     omega
   · (cbv; try simp only [syT, true_and, and_true])
     subst hL; subst hQ
     simp only [L2, std] at h1 |-
     rw [zl9 hk'] at h1
     rw [zkt hk', ztt (zga _ _)]
     have hm : m = zq5 p k' := by rw [hm, <- yfa hk hk' (ya9 h1)]
     rw [<- hm]
     subst hq0
     refine ⟨fun _ _ _ _ => trivial, fun i j hi hj => ?_, rfl, rfl, rfl, rfl, rfl, rfl, rfl, rfl, rfl, by decide⟩
     have : j = 0 := by omega
     subst this; rfl
   · obtain ⟨q', hq'⟩ : ∃ q' : Nat, q' = q + 1 := ⟨_, rfl⟩
     have hm8 : m.length = 8 := by rw [hm]; exact zga _ _
     (cbv; try simp only [syT, true_and, and_true])
     refine ⟨fun h2 => ⟨?_, ?_, ?_, ?_, q', ?_⟩, fun h2 => ?_⟩
     · subst hL; exact ze9 (zam h2)
     · subst hL; exact ykf (zam h2)
     · subst hL; exact yc4 _
     · subst hL; exact zvb (zam h2)
     · (cbv; try simp only [syT, true_and, and_true])
       subst hL; subst hQ
       have h8 : q < 8 := zam h2
       have ek : (za8 q).toNat = q := Int.toNat_natCast q
       simp only [L2, L3, std, ek]
       rw [ztt hm8]
       refine ⟨fun _ _ _ _ => trivial, fun i j hi hj => yc3 hq' h8 i, ?_, ?_, ?_⟩
       · exact zjv hq' (by omega)
       · show q' <= 8
         omega
       · show 8 - q' + 1 <= 8 - q
         omega
     · subst hL; subst hQ
       have hq8 : q = 8 := by
         have : ¬ q < 8 := ze5 h2
         have : q <= 8 := hq
         omega
       subst hq8
       rw [zpn]
       intro j hj
       simp only [L2, std, zxc, yqv]
       rw [<- hpp, <- hm]
 · (cbv; try simp only [syT, true_and, and_true])
   refine ⟨?_, ?_, n0, ?_⟩
   · subst hL; exact hp
   · subst hL; exact hp.2.2
   · (cbv; try simp only [syT, true_and, and_true])
     subst hL; subst hQ
     refine ⟨fun _ _ _ _ => trivial, fun i j hi hj => ?_, fun _ _ _ _ => trivial, ?_, ?_⟩
     · subst hn0; rfl
     · subst hn0; exact hpp.symm
     · subst hn0
       show 64 * (0 + 1) <= p.length
       omega
theorem ylo (hp : zh9 .nils) : zaf Tryz.prog 81 [.nils] (.arr 32 (fun j => .int .u8 (L2 std zac (std zxc .nils) j))) := by
 obtain ⟨p, hpp⟩ : ∃ p, p = yc1 (zpj .nils) := ⟨_, rfl⟩
 obtain ⟨m, hm⟩ : ∃ m, m = zq5 p (p.length / 64) := ⟨_, rfl⟩
 have hlen : p.length % 64 = 0 /\ 64 <= p.length := by rw [hpp]; exact ⟨(zky _).1, (zky _).2.1⟩
 refine zab (T := tt) (S := fun L => zbi [zwm L, zob L, zpo L, zwi L, yht L, zy5 L]) (lo := fun L => smA L m) (lb := fun L => smB L p) 5 (fn := Tryz.f81) rfl rfl (by kernel_rfl) (by kernel_rfl) rfl zah (za9 ⟨zre, zn8, znu, zrc, zvq, zkv, trivial⟩) (by kernel_rfl) ?_
 obtain ⟨n0, hn0⟩ : ∃ n : Nat, n = 0 := ⟨_, rfl⟩
 intro L P' Q' hL hP hQ
 obtain ⟨q0, hq0⟩ : ∃ n : Nat, n = 0 := ⟨_, rfl⟩
 (cbv; try simp only [syT, true_and, and_true])
 refine ⟨fun k hk => ?_, ?_⟩
 · obtain ⟨k', hk'⟩ : ∃ k' : Nat, k' = k + 1 := ⟨_, rfl⟩
   (cbv; try simp only [syT, true_and, and_true])
   refine ⟨?_, ⟨⟨?_, ?_⟩, ?_, fun h1 => ⟨k', ?_⟩, fun h1 => ⟨⟨q0, ?_⟩, fun q hq => ?_⟩⟩⟩
   · subst hL; exact zl8 hk
   · subst hL; exact ⟨rfl, fun j hj => rfl⟩
   · subst hL; exact yf9 hk
   · subst hL; exact zl8 hk
   · (cbv; try simp only [syT, true_and, and_true])
     subst hL; subst hQ
     simp only [L2, std] at h1 |-
     rw [zl9 hk'] at h1 |-
     rw [zkt hk', ztt (zga _ _)]
     refine ⟨fun _ _ _ _ => trivial, fun _ _ _ _ => rfl, fun _ _ _ _ => trivial, rfl, zx1 hlen.1 hk' (yk6 h1), ?_⟩
     have hk : 64 * (k + 1) <= p.length := hk
     show p.length - k' + 1 <= p.length - k
     omega
   · (cbv; try simp only [syT, true_and, and_true])
     subst hL; subst hQ
     simp only [L2, std] at h1 |-
     rw [zl9 hk'] at h1
     rw [zkt hk', ztt (zga _ _)]
     have hm : m = zq5 p k' := by rw [hm, <- yfa hk hk' (ya9 h1)]
     rw [<- hm]
     subst hq0
     refine ⟨fun _ _ _ _ => trivial, fun i j hi hj => ?_, rfl, rfl, rfl, rfl, rfl, rfl, rfl, rfl, rfl, by decide⟩
     have : j = 0 := by omega
     subst this; rfl
   · obtain ⟨q', hq'⟩ : ∃ q' : Nat, q' = q + 1 := ⟨_, rfl⟩
     have hm8 : m.length = 8 := by rw [hm]; exact zga _ _
     (cbv; try simp only [syT, true_and, and_true])
     refine ⟨fun h2 => ⟨?_, ?_, ?_, ?_, q', ?_⟩, fun h2 => ?_⟩
     · subst hL; exact ze9 (zam h2)
     · subst hL; exact ykf (zam h2)
     · subst hL; exact yc4 _
     · subst hL; exact zvb (zam h2)
     · (cbv; try simp only [syT, true_and, and_true])
       subst hL; subst hQ
       have h8 : q < 8 := zam h2
       have ek : (za8 q).toNat = q := Int.toNat_natCast q
       simp only [L2, L3, std, ek]
       rw [ztt hm8]
       refine ⟨fun _ _ _ _ => trivial, fun i j hi hj => yc3 hq' h8 i, ?_, ?_, ?_⟩
       · exact zjv hq' (by omega)
       · show q' <= 8
         omega
       · show 8 - q' + 1 <= 8 - q
         omega
     · subst hL; subst hQ
       have hq8 : q = 8 := by
         have : ¬ q < 8 := ze5 h2
         have : q <= 8 := hq
         omega
       subst hq8
       rw [zpn]
       intro j hj
       simp only [L2, std, zxc, yqv]
       rw [<- hpp, <- hm]
 · (cbv; try simp only [syT, true_and, and_true])
   refine ⟨?_, ?_, n0, ?_⟩
   · subst hL; exact hp
   · subst hL; exact Nat.zero_le _
   · (cbv; try simp only [syT, true_and, and_true])
     subst hL; subst hQ
     refine ⟨fun _ _ _ _ => trivial, fun i j hi hj => ?_, fun _ _ _ _ => trivial, ?_, ?_⟩
     · subst hn0; rfl
     · subst hn0; exact hpp.symm
     · subst hn0
       show 64 * (0 + 1) <= p.length
       omega
theorem znq {x : AV} (hp : zh9 x) : x = .nils \/ ∃ n get, x = .lst 1 n get := by
 unfold zh9 at hp
 split at hp
 · exact .inr ⟨_, _, rfl⟩
 · exact .inl rfl
 · exact hp.elim
theorem zuq : zcs Tryz.prog (ygd std) := by
 intro xs p r h hp
 dsimp only [ygd] at h |-
 split at h <;> cases h
 try simp only [L2, L3, std] at hp |-
 rename_i x
 rcases znq hp with rfl | ⟨n, get, rfl⟩
 · exact ylo hp
 · exact ylp hp
def zun (L : zaa) : zcl := (73, fun xs => match xs with | [x] => some (L zh9 x, .str (L zxc x)) | _ => none)
theorem zus (x : AV) : (zxc x).length = 32 := zur _
theorem zum (x : AV) : bytesOf 32 (fun i => (AV.int .u8 (zac (zxc x) (0 + i))).toI) = zxc x := by
 have := zg2 (zxc x)
 rw [zus] at this
 simp only [Nat.zero_add]
 exact this
theorem zqa : zcs Tryz.prog (zun std) := by
 intro xs p r h hp
 dsimp only [zun] at h |-
 split at h <;> cases h
 try simp only [L2, L3, std] at hp |-
 rename_i x
 have hp : zh9 x := hp
 rcases znq hp with rfl | ⟨n, get, rfl⟩
 · refine zab (T := tt) (S := fun L => zbi [ygd L]) (lo := noA) (lb := noA) 5 (fn := Tryz.f73) rfl rfl (by kernel_rfl) (by kernel_rfl) rfl zah (za9 ⟨zuq, trivial⟩) (by kernel_rfl) ?_
   (intro L P1 Q1 hL hP hQ; cbv; subst hL; simp only [L2, L3, std, syT]; subst hQ)
   refine ⟨hp, trivial, ⟨show 0 + 32 <= 32 by decide, fun i _ => ⟨_, rfl⟩⟩, ?_⟩
   rw [zum, zhr]
 · refine zab (T := tt) (S := fun L => zbi [ygd L]) (lo := noA) (lb := noA) 5 (fn := Tryz.f73) rfl rfl (by kernel_rfl) (by kernel_rfl) rfl zah (za9 ⟨zuq, trivial⟩) (by kernel_rfl) ?_
   (intro L P1 Q1 hL hP hQ; cbv; subst hL; simp only [L2, L3, std, syT]; subst hQ)
   refine ⟨hp, trivial, ⟨show 0 + 32 <= 32 by decide, fun i _ => ⟨_, rfl⟩⟩, ?_⟩
   rw [zum, zhr]
def zy6 (s : List UInt8) : List UInt8 := yqv (yc1 s)
def p16 (L : zaa) (l : List UInt8) : AV := .agg [.int .u8 (L2 L zac l 0), .int .u8 (L2 L zac l 1), .int .u8 (L2 L zac l 2), .int .u8 (L2 L zac l 3), .int .u8 (L2 L zac l 4), .int .u8 (L2 L zac l 5), .int .u8 (L2 L zac l 6), .int .u8 (L2 L zac l 7), .int .u8 (L2 L zac l 8), .int .u8 (L2 L zac l 9), .int .u8 (L2 L zac l 10), .int .u8 (L2 L zac l 11), .int .u8 (L2 L zac l 12), .int .u8 (L2 L zac l 13), .int .u8 (L2 L zac l 14), .int .u8 (L2 L zac l 15)]
theorem yge (s : List UInt8) : zxc (.lst 1 1 fun i _ => .str (ys2 [s] (Nat.add 0 i))) = zy6 s := by
 have e : zpj (.lst 1 1 fun i _ => .str (ys2 [s] (Nat.add 0 i))) = s := by
   show s ++ [] = s
   exact List.append_nil s
 rw [zxc, e, zy6]
theorem yiq (s : List UInt8) (h : s.length <= 1000000) : zh9 (.lst 1 1 fun i _ => .str (ys2 [s] (Nat.add 0 i))) := by
 refine ⟨fun i _ => ⟨_, rfl⟩, by decide, ?_⟩
 show (s ++ []).length <= 1000000
 rw [List.append_nil]; exact h
theorem zkw (s : List UInt8) : (zy6 s).length = 32 := zur _
abbrev B32 (a : Int) : BitVec IntKind.u32.bits := BitVec.ofInt IntKind.u32.bits a
def n32 (b : BitVec IntKind.u32.bits) : Int := b.toNat
theorem yux (b : BitVec IntKind.u32.bits) : IntKind.u32.wrap b.toNat = n32 b := by
 rw [yqo, n32]
 have : b.toNat < 2 ^ 32 := b.isLt
 omega
theorem yrt (a b : Int) : bor .u32 a b = n32 (B32 a ||| B32 b) := yux _
theorem or_comm (a b : Int) : bor .u32 a b = bor .u32 b a := by
 rw [yrt, yrt, BitVec.or_comm]
def hB (p : List UInt8) (a : Int) (n : Nat) : List Int := hS (ytn p (a.toNat / 64)) (zq5 p (a.toNat / 64)) n
theorem yu0 : (zy6 [97, 98, 99]).take 4 = [186, 120, 22, 191] := by decide +kernel
theorem zz7 : zaf Tryz.prog 74 [] (.bool true) := by
 refine zab (T := tt) (S := fun L => zbi [tru 56, zun L, ymp L]) (lo := noA) (lb := noA) 5 (fn := Tryz.f74) rfl rfl (by kernel_rfl) (by kernel_rfl) rfl zah (za9 ⟨zco zk5, zqa, yhd, trivial⟩) (by kernel_rfl) ?_
 (intro L P1 Q1 hL hP hQ; cbv; subst hL; simp only [L2, L3, std, syT]; subst hQ)
 have e : zxc (.lst 1 2 fun i _ => .str (ys2 [[97], [98, 99]] (Nat.add 0 i))) = zy6 [97, 98, 99] := rfl
 have hb : yfv (zy6 [97, 98, 99]) [186, 120, 22, 191] = true := by
   show (List.take 4 (zy6 [97, 98, 99]) == [186, 120, 22, 191]) = true
   rw [yu0]; rfl
 rw [e, hb]
 refine ⟨trivial, fun _ => ⟨⟨?_, by decide, by decide⟩, ⟨?_, by decide⟩, fun _ => ⟨trivial, ?_⟩, fun h => by cases h⟩, fun h => by cases h⟩
 · intro i hi
   exact ⟨_, rfl⟩
 · rw [zkw]; decide
 · rw [zbp, slen, zus]; rfl
end Sy
end Go.Proofs.YtlphgephdhadhaaGreat
