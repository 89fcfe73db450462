/-The symbolic executor: maps. The symbolic executor: slices whose capacity is told. The symbolic executor: maps whose entries are told one by one; and what stands between these and the texts behind.-/
import Derived.Test.YtogomcfgfnlclaaM2
import Derived.LaidEqlPtr
namespace Go.Proofs.Ytogomcfgfnlclaa
namespace Sy
open Go Go.RowKit
set_option linter.unusedSimpArgs false
set_option linter.unusedVariables false
theorem zn2.eq {kk : KK} {v : Value} {k k' : Ky} (h : zn2 kk v k) (h' : zn2 kk v k') : k = k' := by
 cases kk with
 | i ik => obtain ⟨n, rfl, rfl⟩ := h; obtain ⟨n', e, rfl⟩ := h'; cases e; rfl
 | s => obtain ⟨n, rfl, rfl⟩ := h; obtain ⟨n', e, rfl⟩ := h'; cases e; rfl
 | a ks =>
   obtain ⟨l, e1, rfl, rfl⟩ := h; obtain ⟨l', e1', e, rfl⟩ := h'
   congr 1
   have e : ks.zip l = ks.zip l' := by
     have e := congrArg Array.toList (Value.agg.inj e)
     simp only [List.toList_toArray] at e
     refine List.map_inj_right (f := fun x : IntKind × Int => Value.int x.1 x.2) (fun x y hxy => ?_) |>.1 e
     obtain ⟨x1, x2⟩ := x
     obtain ⟨y1, y2⟩ := y
     simp only [Value.int.injEq] at hxy
     rw [hxy.1, hxy.2]
   have := congrArg (List.map Prod.snd) e
   rwa [List.map_snd_zip (by omega), List.map_snd_zip (by omega)] at this
 | no => cases h
theorem zn2.val {kk : KK} {v v' : Value} {k : Ky} (h : zn2 kk v k) (h' : zn2 kk v' k) : v = v' := by
 cases kk with
 | i ik => obtain ⟨n, rfl, rfl⟩ := h; obtain ⟨n', rfl, e⟩ := h'; cases e; rfl
 | s =>
   obtain ⟨n, rfl, rfl⟩ := h; obtain ⟨n', rfl, e⟩ := h'
   have e := Ky.s.inj e
   congr 1
   exact ByteArray.ext (Array.ext' e)
 | a ks =>
   obtain ⟨l, e1, rfl, rfl⟩ := h; obtain ⟨l', e1', rfl, e⟩ := h'
   cases e; rfl
 | no => cases h
def zhn : KK -> Bool
 | .i _ => true
 | .s => true
 | _ => false
theorem zh6 {a b : KK} (e : zx8 a b = true) : a = b /\ zhn b = true := by
 unfold zx8 at e
 split at e
 · obtain rfl := of_decide_eq_true e; exact ⟨rfl, rfl⟩
 · exact ⟨rfl, rfl⟩
 · cases e
theorem zoa {h : Array Obj} {D : Nat -> Prop} {μ : Mu} {kk : KK} {x : AV} {v : Value} {k : Ky} (e : keyOf kk x = some k) (r : R h D μ x v) : zn2 kk v k := by
 unfold keyOf at e
 split at e
 · split at e
   · rename_i hk
     obtain rfl := of_decide_eq_true hk
     cases e; cases r; exact ⟨_, rfl, rfl⟩
   · cases e
 · cases e
   cases r with | str _ s q => subst q; exact ⟨s, rfl, rfl⟩
 · rename_i ks cs
   split at e
   · rename_i l hl
     cases e
     obtain ⟨us, rfl, o1, r1⟩ := r.inv_agg
     have key : ∀ (ks : List IntKind) (cs : List AV) (l : List Int) (us : List Value), zmp ks cs = some l -> cs.length = us.length -> (∀ (i : Nat) x v, cs[i]? = some x -> us[i]? = some v -> R h D μ x v) ->
         l.length = ks.length /\ us = (ks.zip l).map fun x => Value.int x.1 x.2 := by
       intro ks
       induction ks with
       | nil =>
         intro cs l us e1 e2 _
         cases cs with
         | nil => cases e1; cases us with | nil => exact ⟨rfl, rfl⟩ | cons _ _ => simp at e2
         | cons _ _ => simp [zmp] at e1
       | cons k ks ih =>
         intro cs l us e1 e2 hr
         cases cs with
         | nil => simp [zmp] at e1
         | cons c cs =>
           cases us with
           | nil => simp at e2
           | cons u us =>
             unfold zmp at e1
             split at e1
             · rename_i q1 q2; cases q1
             · rename_i k2 ks2 k' n xs q1 q2
               cases q1; cases q2
               split at e1
               · rename_i hk
                 obtain rfl := of_decide_eq_true hk
                 split at e1
                 · rename_i l' hl'
                   cases e1
                   obtain ⟨i1, i2⟩ := ih cs l' us hl' (by simpa using e2) (fun i x v h1 h2 => hr (i + 1) x v (by simpa using h1) (by simpa using h2))
                   have h0 := hr 0 _ _ rfl rfl
                   have h0 := h0.inv_int
                   exact ⟨by simp [i1], by simp [i2, h0]⟩
                 · cases e1
               · cases e1
             · cases e1
     obtain ⟨k1, k2⟩ := key ks cs l us.toList hl (by rw [r1.1]; simp) (fun i x v h1 h2 => r1.2 i x v h1 (by simpa using h2))
     refine ⟨l, k1, ?_, rfl⟩
     rw [<- k2]
   · cases e
 · cases e
theorem znk (c : Bool) : ∀ (xs ys : List AV) (i : Nat), xs.length = ys.length -> (yf3 std c xs ys)[i]? = match xs[i]?, ys[i]? with | some x, some y => some (zci std c x y) | _, _ => none
 | [], [], i, _ => by simp [yf3]
 | x :: xs, y :: ys, 0, _ => by simp [yf3]
 | x :: xs, y :: ys, i + 1, e => by simp [yf3, znk c xs ys i (by simpa using e)]
theorem znj (c : Bool) : ∀ (xs ys : List AV), xs.length = ys.length -> (yf3 std c xs ys).length = xs.length
 | [], [], _ => by simp [yf3]
 | x :: xs, y :: ys, e => by simp [yf3, znj c xs ys (by simpa using e)]
theorem zk8 {h : Array Obj} {D : Nat -> Prop} {μ : Mu} {x : AV} {v : Value} (r : R h D μ x v) (y : AV) : R h D μ (yi4 std true x y) v := by
 unfold yi4
 split
 · rename_i xs ys
   split
   · rename_i hl
     have hl := za1 hl
     rw [zai, zai] at hl
     obtain ⟨us, rfl, o1, r1⟩ := r.inv_agg
     refine .agg _ _ (by rw [znj _ _ _ hl, r1.1]) o1 (fun i z u hz hu => ?_)
     rw [znk _ _ _ _ hl] at hz
     split at hz
     · rename_i x y hx hy
       cases hz
       exact zbq (r1.2 i x u hx hu) y
     · cases hz
   · exact .dead _
 · exact zbq r _
theorem zih {h : Array Obj} {D : Nat -> Prop} {μ : Mu} {y : AV} {v : Value} (r : R h D μ y v) (x : AV) : R h D μ (yi4 std false x y) v := by
 unfold yi4
 split
 · rename_i xs ys
   split
   · rename_i hl
     have hl := za1 hl
     rw [zai, zai] at hl
     obtain ⟨us, rfl, o1, r1⟩ := r.inv_agg
     refine .agg _ _ (by rw [znj _ _ _ hl, hl, r1.1]) o1 (fun i z u hz hu => ?_)
     rw [znk _ _ _ _ hl] at hz
     split at hz
     · rename_i x y hx hy
       cases hz
       exact zba (r1.2 i y u hy hu) x
     · cases hz
   · exact .dead _
 · exact zba r _
def ytg (h : Array Obj) (D : Nat -> Prop) (kk : KK) (n : Nat) (has : Ky -> Bool) (val : Ky -> AV) (b : Nat) (es : Array MapEntry) (clock : Nat) (kf : Nat -> Ky) : Prop :=
 h[b]? = some (.map es clock) /\ es.size = n /\ zd0 kk has es clock kf /\ ∀ (i : Nat) e, es[i]? = some e -> R h D zar (val (kf i)) e.val
section
variable {P : Program} {T : TT} {base : Nat} {M : Two} {W : World} {nt : Nat} {f : Nat -> Option AV} {g : Nat -> Option Ob} {c : Nat -> Bool} {a : Act} {w : World} {D : Nat -> Prop} {μ : Mu} {o : Oper}
theorem ygu (hT : zbd P T) {kt : Nat} (hp : zhn (zdp T kt) = true) : (∃ k, zdp T kt = .i k /\ P.underlying kt = some (.int k)) \/ zdp T kt = .s /\ P.underlying kt = some .string := by
 cases hf : T.find kt with
 | none => simp [zdp, hf, zhn] at hp
 | some i =>
   have hk := (hT _ _ hf).k
   cases hik : i.k with
   | int k => rw [hik] at hk; exact .inl ⟨k, by simp [zdp, hf, hik], hk⟩
   | str => rw [hik] at hk; exact .inr ⟨by simp [zdp, hf, hik], hk⟩
   | _ =>
     exfalso
     simp only [zdp, hf, hik] at hp
     split at hp <;> cases hp
theorem yla (hT : zbd P T) {kt : Nat} {v : Value} {k : Ky} (h : zn2 (zdp T kt) v k) (hp : zhn (zdp T kt) = true) : ∃ d, P.underlying kt = some d /\ MapKept.IsKey d v /\ ∀ v' k', zn2 (zdp T kt) v' k' -> MapKept.IsKey d v' := by
 rcases ygu hT hp with ⟨ik, e, hu⟩ | ⟨e, hu⟩
 · rw [e] at h |-
   refine ⟨_, hu, ?_, ?_⟩
   · obtain ⟨n, rfl, _⟩ := h; rfl
   · rintro v' k' ⟨n, rfl, _⟩; rfl
 · rw [e] at h |-
   refine ⟨_, hu, ?_, ?_⟩
   · obtain ⟨n, rfl, _⟩ := h; trivial
   · rintro v' k' ⟨n, rfl, _⟩; trivial
theorem ze0 (hT : zbd P T) {kt : Nat} {has : Ky -> Bool} {es : Array MapEntry} {clock : Nat} {kf : Nat -> Ky} (ok : zd0 (zdp T kt) has es clock kf) {v : Value} {k : Ky} (hk : zn2 (zdp T kt) v k) (hp : zhn (zdp T kt) = true) (w : World) :
   (∀ b, (Instr.checkKey b 10000 kt v).run P w = .ok () w) /\ (Instr.keyThatStays v v).run P w = .ok v w /\
   ((has k = false /\ (Instr.findKey kt v es.toList).run P w = .ok none w /\ ∀ x ∈ es.toList, x.key ≠ v) \/
     ∃ j e, has k = true /\ kf j = k /\ es[j]? = some e /\ e.key = v /\ (Instr.findKey kt v es.toList).run P w = .ok (some (j, e.val)) w) := by
 obtain ⟨d, hd, h1, h2⟩ := yla hT hk hp
 refine ⟨fun b => MapKept.run_checkKey hd h1 b 9999, MapKept.run_keyThatStays h1, ?_⟩
 rcases MapKept.findNow_spec h1 es.toList 0 (fun x hx => by
   obtain ⟨i, hi⟩ := List.getElem?_of_mem hx
   exact h2 _ _ (ok.key i x (by simpa using hi)).1) with ⟨f1, f2⟩ | ⟨j, e, f1, f2, f3⟩
 · refine .inl ⟨?_, MapKept.run_findKey hd f1, f2⟩
   cases hh : has k with
   | false => rfl
   | true =>
     obtain ⟨i, hi, he⟩ := ok.all k hh
     have := (ok.key i es[i] (by simp [hi])).1
     rw [he] at this
     exact absurd (this.val hk) (f2 _ (by simp))
 · have f2 : es[j]? = some e := by simpa using f2
   have := ok.key j e f2
   rw [f3] at this
   have hkk := this.1.eq hk
   exact .inr ⟨j, e, by rw [<- hkk]; exact this.2, hkk, f2, f3, by rw [MapKept.run_findKey hd f1, Nat.zero_add]⟩
variable (h : Sim base M W nt f g c a w D μ) (hd : ∀ d, o.dst = some d -> d < nt)
include h hd
theorem zzp (hT : zbd P T) {t : TypeId} (e : o.op = .makeMap t none) : zbw P base M W nt f g c o a w (yml T o.dst t (zcd g o.op o.dst)) := by
 unfold yml
 split
 · rename_i d hc
   obtain ⟨hn, hdst⟩ := zbg hc
   have hnew : g d = none := by
     simp only [zcd, e, zbz, hdst] at hn
     cases hg : g d with
     | none => rfl
     | some _ => rw [hg] at hn; cases hn
   split
   · rename_i sz ag ze kt et eqf p1 p2 p3 hi
     have run : (execOp a.eval o).run P w = .ok (.value (.map (some w.heap.size))) (w.alloc (.map #[] 0)) := by
       unfold execOp
       rw [e]
       simp [Instr.makeMap]
     intro K Q hK
     unfold Oper.wp
     rw [run]
     have h1 := h.newO (hd _ hdst) hnew (.map (zdp T kt) 0 (fun _ => false) (fun _ => .dead)) (.map #[] 0) 0 0 (by simp)
       ⟨#[], 0, fun _ => .i 0, heap_alloc_new _ _, rfl, ⟨fun i x hx => (by simp at hx), fun k hk => (by cases hk), MapKept.stamped_empty 0⟩, fun i x hx => (by simp at hx)⟩
     exact hK _ _ ⟨_, _, h1.put hd (.mp _ _ 0 0 (by simp))⟩
   · trivial
 · trivial
omit hd in
theorem zui {ob : Nat -> Option Ob} (hob : ∀ id z, ob id = some z -> g id = some z) {m : AV} {kk : KK} {n : Nat} {has : Ky -> Bool} {val : Ky -> AV} (e : ygh ob m = some (kk, n, has, val)) {v : Value} (r : R w.heap D μ m v) :
   ∃ b es clock kf, v = .map (some b) /\ ytg w.heap D kk n has val b es clock kf := by
 unfold ygh at e
 split at e
 · rename_i id
   split at e
   · rename_i hg
     cases e
     cases r with
     | mp _ b z m hμ =>
       obtain ⟨es, clock, kf, hh⟩ := h.obs id _ _ (hob _ _ hg) hμ
       exact ⟨b, es, clock, kf, rfl, hh⟩
   · cases e
 · cases e
   cases r with
   | mpi _ _ _ _ b es clock kf hD hb hn hk hr => exact ⟨b, es, clock, kf, rfl, hb, hn, hk, hr⟩
 · cases e
theorem yfa (hT : zbd P T) {x : Operand} {t : Nat} {r : List Nat} {ts : Array TypeId} (hts : ts.toList = t :: r) (e : o.op = .call { callee := .builtin .len, args := #[x], argTypes := ts }) {vals : List AV}
   (hv : Ops w.heap D μ a [x] vals) {ob : Nat -> Option Ob} (hob : ∀ id z, ob id = some z -> g id = some z) : zbw P base M W nt f g c o a w (yt5 T std t ob vals) := by
 match vals, hv with
 | [v], ⟨hv, _⟩ =>
   have run : ∀ u, (Builtin.len_ ts o.type #[a.eval x]).run P w = .ok u w -> (execOp a.eval o).run P w = .ok (.value u) w := by
     intro u hu
     unfold execOp
     rw [e]
     simp [resolve, invoke, builtin, hu]
   have h0 : ts[0]? = some t := by rw [<- Array.getElem?_toList, hts]; rfl
   generalize a.eval x = u at *
   unfold yt5
   simp only
   split
   · rename_i i hi
     have ok := (hT _ i hi).k
     split
     · rename_i hk
       rw [hk] at ok
       split
       · rename_i l
         obtain ⟨s, rfl, rfl⟩ := hv.inv_str
         refine za0 h hd (u := .int .i64 s.size) (run _ ?_) ?_
         · simp [Builtin.len_, h0, run_underlying ok]; rfl
         · have : std slen s.data.toList = (s.size : Int) := by simp [std, slen]
           rw [this]; exact .int _ _
       · trivial
     · rename_i e' esz eb hk
       rw [hk] at ok
       have ok := ok.1
       have slices : ∀ b n cap, u = .slice b n cap -> Adv P base M W nt f g c o a w (.int .i64 (std za7 n)) [] [] := by
         rintro b n cap rfl
         refine za0 h hd (u := .int .i64 n) (run _ ?_) (.int _ _)
         simp [Builtin.len_, h0, run_underlying ok]; rfl
       split
       · cases hv <;> exact slices _ _ _ rfl
       · cases hv <;> exact slices _ _ _ rfl
       · cases hv <;> exact slices _ _ _ rfl
       · cases hv; exact slices _ 0 _ rfl
       · cases hv; exact slices _ 0 _ rfl
       · cases hv; exact slices _ 0 _ rfl
       · trivial
     · rename_i n e' esz hk
       rw [hk] at ok
       have ok := ok.1
       refine za0 h hd (u := .int .i64 n) (run _ ?_) (.int _ _)
       simp [Builtin.len_, h0, run_underlying ok]; rfl
     · rename_i kt et hk
       rw [hk] at ok
       simp only [kOk] at ok
       split
       · cases hv
         refine za0 h hd (u := .int .i64 0) (run _ ?_) (.int _ _)
         simp [Builtin.len_, h0, run_underlying ok]; rfl
       · split
         · rename_i kk n has val hmo
           obtain ⟨b, es, clock, kf, rfl, hb, hn, -⟩ := zui h hob hmo hv
           refine za0 h hd (u := .int .i64 n) (run _ ?_) (.int _ _)
           simp [Builtin.len_, h0, run_underlying ok, MapKept.run_getObj_map hb, Result.andThen, hn]; rfl
         · trivial
     · trivial
   · trivial
theorem zzq (hT : zbd P T) {t : TypeId} {x y : Operand} {ok : Bool} (e : o.op = .lookup t x y ok) {vals : List AV} (hv : Ops w.heap D μ a [x, y] vals) {ob : Nat -> Option Ob} (hob : ∀ id z, ob id = some z -> g id = some z) :
   zbw P base M W nt f g c o a w (ymm T std t ok ob vals) := by
 match vals, hv with
 | [m, k], ⟨hm, hk, _⟩ =>
   unfold ymm
   simp only
   split
   · rename_i sz ag ze kt et eqf p1 p2 p3 hi
     have hu := (hT t _ hi).k
     simp only [kOk] at hu
     split
     · rename_i ei hei
       split
       · rename_i kk n has val hmo
         split
         · rename_i key hkk hke
           obtain ⟨rfl, hp⟩ := zh6 hkk
           obtain ⟨b, es, clock, kf, hmv, hb, hn, hks, hr⟩ := zui h hob hmo hm
           have hkey := zoa hke hk
           obtain ⟨f1, f2, f3⟩ := ze0 hT hks hkey hp w
           obtain ⟨z, z1, z2⟩ := (hT et ei hei).zeroR
           have rz : R w.heap D μ (zfk ei) z := z2 _ _ _
           obtain ⟨u, hrun, ru⟩ : ∃ u, (Instr.lookup t (a.eval x) (a.eval y) ok).run P w = .ok (cond ok (.tuple #[u, .bool (has key)]) u) w /\ R w.heap D μ (yi4 std (has key) (val key) (zfk ei)) u := by
             rcases f3 with ⟨g1, g2, _⟩ | ⟨j, x', g1, g2, g3, g4, g5⟩
             · refine ⟨z, ?_, by rw [g1]; exact zih rz _⟩
               rw [hmv]
               unfold Instr.lookup
               simp only [Sem.run_bind, run_underlying hu, Result.andThen_ok, MapKept.run_getObj_map hb, f1, g2, z1, Sem.run_pure, g1]
               cases ok <;> rfl
             · have rj := (hr j x' g3).free (μ := μ)
               rw [g2] at rj
               refine ⟨x'.val, ?_, by rw [g1]; exact zk8 rj _⟩
               rw [hmv]
               unfold Instr.lookup
               simp only [Sem.run_bind, run_underlying hu, Result.andThen_ok, MapKept.run_getObj_map hb, f1, g5, Sem.run_pure, g1]
               cases ok <;> rfl
           cases ok with
           | true =>
             refine za0 h hd (u := .tuple #[u, .bool (has key)]) ?_ (.tup _ _ rfl (fun i x' v hx hv => ?_))
             · unfold execOp
               rw [e]
               simp [hrun]
             · match i with
               | 0 => simp at hx hv; subst hx; subst hv; exact ru
               | 1 => simp at hx hv; subst hx; subst hv; exact .bool _
               | i + 2 => simp at hx
           | false =>
             refine za0 h hd (u := u) ?_ ru
             unfold execOp
             rw [e]
             simp [hrun]
         · trivial
       · trivial
     · trivial
   · trivial
theorem yf7 (hT : zbd P T) {t : TypeId} {x y v : Operand} (e : o.op = .mapUpdate t x y v) {vals : List AV} (hv : Ops w.heap D μ a [x, y, v] vals) {ob : Nat -> Option Ob} (hob : ∀ id z, ob id = some z -> g id = some z) {ice : Nat -> Bool} (hice : ∀ id, ice id = false -> c id = false) :
   zbw P base M W nt f g c o a w (yt4 T std t ob ice vals) := by
 unfold yt4
 split
 · rename_i id k val'
   obtain ⟨hm, hk, hx, _⟩ := hv
   split
   · rename_i sz ag ze kt et eqf p1 p2 p3 hi
     have hu := (hT t _ hi).k
     simp only [kOk] at hu
     split
     · rename_i kk n has val hic hg
       have hic := hice _ hic
       have hg := hob _ _ hg
       split
       · rename_i key hkk hke
         obtain ⟨rfl, hp⟩ := zh6 hkk
         split
         · rename_i v' himm hnot
           have hkey := zoa hke hk
           obtain ⟨l2, l1⟩ := yce h hob himm (ids := zv0 val') (fun _ h => h)
           have l1 := l1 _ hx
           have h' := h.freeze (zv0 val') l2
           have hic' : zhd c (zv0 val') id = false := by simp [zhd, hnot, hic]
           generalize hum : a.eval x = um at hm
           cases hm with
           | mp _ b z m hμ =>
             obtain ⟨es, clock, kf, hb, hn, hks, hr⟩ := h'.obs id _ _ hg hμ
             obtain ⟨f1, f2, f3⟩ := ze0 hT hks hkey hp w
             obtain ⟨es', clock', kf', hrun, hn', hks', hr'⟩ : ∃ es' clock' kf', (Instr.mapUpdate t (.map (some b)) (a.eval y) (a.eval v)).run P w = .ok () { w with heap := w.heap.setIfInBounds b (.map es' clock') } /\ es'.size = L2 std zx3 (std has key) n /\
                 zd0 (zdp T kt) (zi1 std key has) es' clock' kf' /\ ∀ (i : Nat) e, es'[i]? = some e -> R w.heap (fun b => D b \/ ∃ id z m, id ∈ zv0 val' /\ μ id = some (some (b, z, m))) zar (zk0 std key v' val (kf' i)) e.val := by
               rcases f3 with ⟨g1, g2, g3⟩ | ⟨j, x', g1, g2, g3, g4, g5⟩
               · refine ⟨es.push { key := a.eval y, val := a.eval v, born := clock }, clock + 1, fun i => if i = es.size then key else kf i, ?_, ?_, ?_, ?_⟩
                 · simp [Instr.mapUpdate, run_underlying hu, MapKept.run_getObj_map hb, f1, g2, MapKept.run_setObj_map _ hb, Result.andThen]
                 · simp [L2, std, zx3, g1, hn]
                 · refine ⟨fun i x' hx' => ?_, fun k' hk' => ?_, MapKept.stamped_push hks.st g3⟩
                   · rw [Array.getElem?_push] at hx'
                     split at hx'
                     · rename_i hi'; cases hx'; rw [if_pos hi']; exact ⟨hkey, by simp [zi1, L2, std, zuq]⟩
                     · rename_i hi'; rw [if_neg hi']
                       obtain ⟨q1, q2⟩ := hks.key i x' hx'
                       exact ⟨q1, by simp [zi1, L2, std, q2]⟩
                   · simp only [zi1, L2, std, zuq, Bool.or_eq_true, decide_eq_true_eq] at hk'
                     rcases hk' with rfl | hk'
                     · exact ⟨es.size, by simp, by simp⟩
                     · obtain ⟨i, i1, i2⟩ := hks.all k' hk'
                       exact ⟨i, by simp; omega, by rw [if_neg (by omega)]; exact i2⟩
                 · intro i x' hx'
                   rw [Array.getElem?_push] at hx'
                   split at hx'
                   · rename_i hi'; cases hx'; simp only [hi', if_true]
                     simp only [zk0, L2, std, zuq, decide_true]
                     exact zk8 l1 _
                   · rename_i hi'; simp only [if_neg hi']
                     have hne : ¬ kf i = key := by
                       rintro q
                       have := (hks.key i x' hx').2
                       rw [q, g1] at this; cases this
                     simp only [zk0, L2, std, zuq, decide_eq_false hne]
                     exact zih (hr i x' hx') _
               · have hlt : j < es.size := (Array.getElem?_eq_some_iff.1 g3).1
                 refine ⟨es.modify j fun e => { e with key := a.eval y, val := a.eval v }, clock, kf, ?_, ?_, ?_, ?_⟩
                 · simp [Instr.mapUpdate, run_underlying hu, MapKept.run_getObj_map hb, f1, f2, g3, g4, g5, MapKept.run_setObj_map _ hb, Result.andThen]
                 · simp [L2, std, zx3, g1, hn]
                 · refine ⟨fun i x2 hx2 => ?_, fun k' hk' => ?_, MapKept.stamped_modify hks.st _ _ (fun _ _ => rfl) (fun e' _ he' => by rw [g3] at he'; cases he'; exact g4.symm)⟩
                   · rw [Array.getElem?_modify] at hx2
                     split at hx2
                     · rename_i hi'
                       subst hi'
                       rw [g3] at hx2
                       cases hx2
                       rw [g2]
                       exact ⟨hkey, by simp [zi1, L2, std, zuq]⟩
                     · obtain ⟨q1, q2⟩ := hks.key i x2 hx2
                       exact ⟨q1, by simp [zi1, L2, std, q2]⟩
                   · simp only [zi1, L2, std, zuq, Bool.or_eq_true, decide_eq_true_eq] at hk'
                     rcases hk' with rfl | hk'
                     · exact ⟨j, by simpa using hlt, g2⟩
                     · obtain ⟨i, i1, i2⟩ := hks.all k' hk'
                       exact ⟨i, by simpa using i1, i2⟩
                 · intro i x2 hx2
                   rw [Array.getElem?_modify] at hx2
                   split at hx2
                   · rename_i hi'
                     subst hi'
                     rw [g3] at hx2
                     cases hx2
                     rw [g2]
                     simp only [zk0, L2, std, zuq, decide_true]
                     exact zk8 l1 _
                   · rename_i hi'
                     have hne : ¬ kf i = key := by
                       rintro q
                       have k1 := (hks.key i x2 hx2).1
                       rw [q] at k1
                       have k3 : x2.key = x'.key := by rw [g4]; exact k1.val hkey
                       have hi2 : i < es.size := (Array.getElem?_eq_some_iff.1 hx2).1
                       have nd := hks.st.2.2
                       have p1 : (es.toList.map (·.key))[i]? = some x2.key := by simp [hx2]
                       have p2 : (es.toList.map (·.key))[j]? = some x'.key := by simp [g3]
                       rw [k3, <- p2] at p1
                       have := (List.getElem?_inj (by simpa using hi2) nd).1 p1
                       exact hi' this.symm
                     simp only [zk0, L2, std, zuq, decide_eq_false hne]
                     exact zih (hr i x2 hx2) _
             have hblt : b < w.heap.size := (Array.getElem?_eq_some_iff.1 hb).1
             have run : (execOp a.eval o).run P w = .ok .skip { w with heap := w.heap.setIfInBounds b (.map es' clock') } := by
               unfold execOp
               rw [e]
               simp [hum, hrun]
             intro K Q hK
             unfold Oper.wp
             rw [run]
             have h1 := h'.turn (ob' := .map (zdp T kt) (L2 std zx3 (std has key) n) (zi1 std key has) (zk0 std key v' val)) (w' := { w with heap := w.heap.setIfInBounds b (.map es' clock') }) hμ hg (by simp) trivial hic' rfl rfl rfl (by simp) (fun k' hk' => by simp [Ne.symm hk'])
               (fun hD => ⟨es', clock', kf', by simp [hblt], hn', hks', fun i x' hx' => (hr' i x' hx').mono hD (fun _ h => h) (fun _ _ h => h)⟩)
             exact hK _ _ ⟨_, _, h1.put hd (.dead _)⟩
         · trivial
       · trivial
     · trivial
   · trivial
 · trivial
theorem zzn (hT : zbd P T) {x y : Operand} {t t' : Nat} {ts : Array TypeId} (hts : ts.toList = [t, t']) (e : o.op = .call { callee := .builtin .delete, args := #[x, y], argTypes := ts }) {vals : List AV} (hv : Ops w.heap D μ a [x, y] vals) {ob : Nat -> Option Ob} (hob : ∀ id z, ob id = some z -> g id = some z) {ice : Nat -> Bool} (hice : ∀ id, ice id = false -> c id = false) :
   zbw P base M W nt f g c o a w (yde T std t ob ice vals) := by
 have hts' : ts = #[t, t'] := by apply Array.ext'; simpa using hts
 subst hts'
 unfold yde
 split
 · rename_i id k
   obtain ⟨hm, hk, _⟩ := hv
   split
   · rename_i sz ag ze kt et eqf p1 p2 p3 hi
     have hu := (hT t _ hi).k
     simp only [kOk] at hu
     split
     · rename_i kk n has val hic hg
       have hic := hice _ hic
       have hg := hob _ _ hg
       split
       · rename_i key hkk hke
         obtain ⟨rfl, hp⟩ := zh6 hkk
         have hkey := zoa hke hk
         generalize hum : a.eval x = um at hm
         cases hm with
         | mp _ b z m hμ =>
           obtain ⟨es, clock, kf, hb, hn, hks, hr⟩ := h.obs id _ _ hg hμ
           obtain ⟨f1, f2, f3⟩ := ze0 hT hks hkey hp w
           obtain ⟨es', kf', hrun, hn', hks', hr'⟩ : ∃ es' kf', (Builtin.delete_ #[t, t'] o.type #[.map (some b), a.eval y]).run P w = .ok (.tuple #[]) { w with heap := w.heap.setIfInBounds b (.map es' clock) } /\ es'.size = L2 std zx4 (std has key) n /\
               zd0 (zdp T kt) (zj0 std key has) es' clock kf' /\ ∀ (i : Nat) e, es'[i]? = some e -> R w.heap D zar (val (kf' i)) e.val := by
             rcases f3 with ⟨g1, g2, g3⟩ | ⟨j, x', g1, g2, g3, g4, g5⟩
             · refine ⟨es, kf, ?_, by simp [L2, std, zx4, g1, hn], ⟨fun i x' hx' => ⟨(hks.key i x' hx').1, ?_⟩, fun k' hk' => hks.all k' ?_, hks.st⟩, hr⟩
               · simp [Builtin.delete_, run_underlying hu, MapKept.run_getObj_map hb, f1, g2, MapKept.run_setObj_map _ hb, Result.andThen]
               · have q := (hks.key i x' hx').2
                 have hne : ¬ kf i = key := by rintro e'; rw [e', g1] at q; cases q
                 simp [zj0, L2, std, zuq, yqf, hne, q]
               · simp only [zj0, L2, std, yqf, Bool.and_eq_true] at hk'; exact hk'.2
             · have hlt : j < es.size := (Array.getElem?_eq_some_iff.1 g3).1
               have hers : ∀ i : Nat, (es.eraseIdxIfInBounds j)[i]? = if i < j then es[i]? else es[i + 1]? := by
                 intro i
                 unfold Array.eraseIdxIfInBounds
                 rw [dif_pos hlt, Array.getElem?_eraseIdx]
               have inj : ∀ i e, es[i]? = some e -> kf i = key -> i = j := by
                 intro i e1 he1 q
                 have k1 := (hks.key i e1 he1).1
                 rw [q] at k1
                 have k3 : e1.key = x'.key := by rw [g4]; exact k1.val hkey
                 have hi2 : i < es.size := (Array.getElem?_eq_some_iff.1 he1).1
                 have p1 : (es.toList.map (·.key))[i]? = some e1.key := by simp [he1]
                 have p2 : (es.toList.map (·.key))[j]? = some x'.key := by simp [g3]
                 rw [k3, <- p2] at p1
                 exact (List.getElem?_inj (by simpa using hi2) hks.st.2.2).1 p1
               refine ⟨es.eraseIdxIfInBounds j, fun i => if i < j then kf i else kf (i + 1), ?_, ?_, ⟨fun i x2 hx2 => ?_, fun k' hk' => ?_, MapKept.stamped_erase hks.st j⟩, fun i x2 hx2 => ?_⟩
               · simp [Builtin.delete_, run_underlying hu, MapKept.run_getObj_map hb, f1, g5, MapKept.run_setObj_map _ hb, Result.andThen]
               · simp only [L2, std, zx4, g1, cond_true, <- hn]
                 unfold Array.eraseIdxIfInBounds
                 rw [dif_pos hlt]
                 simp
               · rw [hers] at hx2
                 have fin : ∀ i' (e2 : MapEntry), es[i']? = some e2 -> i' ≠ j -> zn2 (zdp T kt) e2.key (kf i') /\ zj0 std key has (kf i') = true := by
                   intro i' e2 he2 hne
                   obtain ⟨q1, q2⟩ := hks.key i' e2 he2
                   exact ⟨q1, by simp only [zj0, L2, std, yqf, zuq, q2, Bool.and_true, Bool.not_eq_true', decide_eq_false_iff_not]; exact fun q => hne (inj i' e2 he2 q)⟩
                 by_cases hij : i < j
                 · rw [if_pos hij] at hx2; simp only [if_pos hij]; exact fin i x2 hx2 (by omega)
                 · rw [if_neg hij] at hx2; simp only [if_neg hij]; exact fin (i + 1) x2 hx2 (by omega)
               · simp only [zj0, L2, std, yqf, zuq, Bool.and_eq_true, Bool.not_eq_true', decide_eq_false_iff_not] at hk'
                 obtain ⟨i, i1, i2⟩ := hks.all k' hk'.2
                 have hij : i ≠ j := by rintro rfl; rw [g2] at i2; exact hk'.1 i2.symm
                 have hsz : (es.eraseIdxIfInBounds j).size = es.size - 1 := by
                   unfold Array.eraseIdxIfInBounds
                   rw [dif_pos hlt]
                   simp
                 rw [hsz]
                 by_cases hlt' : i < j
                 · exact ⟨i, by omega, by simp only [if_pos hlt']; exact i2⟩
                 · exact ⟨i - 1, by omega, by simp only [if_neg (show ¬ i - 1 < j by omega)]; rw [show i - 1 + 1 = i by omega]; exact i2⟩
               · rw [hers] at hx2
                 by_cases hij : i < j
                 · rw [if_pos hij] at hx2; simp only [if_pos hij]; exact hr i x2 hx2
                 · rw [if_neg hij] at hx2; simp only [if_neg hij]; exact hr (i + 1) x2 hx2
           have hblt : b < w.heap.size := (Array.getElem?_eq_some_iff.1 hb).1
           have run : (execOp a.eval o).run P w = .ok (.value (.tuple #[])) { w with heap := w.heap.setIfInBounds b (.map es' clock) } := by
             unfold execOp
             rw [e]
             simp [resolve, invoke, builtin, hum, hrun]
           intro K Q hK
           unfold Oper.wp
           rw [run]
           have h1 := h.turn (ob' := .map (zdp T kt) (L2 std zx4 (std has key) n) (zj0 std key has) val) (w' := { w with heap := w.heap.setIfInBounds b (.map es' clock) }) hμ hg (by simp) trivial hic rfl rfl rfl (by simp) (fun k' hk' => by simp [Ne.symm hk'])
             (fun hD => ⟨es', clock, kf', by simp [hblt], hn', hks', fun i x' hx' => (hr' i x' hx').mono hD (fun _ h => h) (fun _ _ h => h)⟩)
           exact hK _ _ ⟨_, _, h1.put hd (.tup _ _ rfl (fun i x v hx => by simp at hx))⟩
       · trivial
     · trivial
   · trivial
 · trivial
end
end Sy
end Go.Proofs.Ytogomcfgfnlclaa
namespace Go.Proofs.Ytogomcfgfnlclaa
namespace Sy
open Go Go.RowKit
set_option linter.unusedSimpArgs false
set_option linter.unusedVariables false
theorem zty {h : Array Obj} {D : Nat -> Prop} {μ : Mu} {a : Act} {l : List Operand} {vals : List AV} (hv : Ops h D μ a l vals) : Ops h D μ a l (ygn vals) := by
 unfold ygn
 split
 · cases l with
   | nil => exact hv.elim
   | cons x l => exact ⟨hv.1.less, hv.2⟩
 · cases l with
   | nil => exact hv.elim
   | cons x l => exact ⟨hv.1.lessx, hv.2⟩
 · exact hv
theorem zt3 {P : Program} {w : World} {a : Act} (isS : Bool) (len cap : Nat) {lo hi mx : Option Operand} {p q s : Option Int} (h1 : zen a lo p) (h2 : zen a hi q) (h3 : zen a mx s) (hm : mx.isSome = true -> hi.isSome = true)
   (l r k : Nat) (hl : (p.getD 0) = (l : Int)) (hr : (q.getD len) = (r : Int)) (hk : (s.getD cap) = (k : Int)) (hlr : l <= r) (hrc : r <= k) (hkc : k <= cap) :
   (Instr.sliceBounds isS len cap (lo.map a.eval) (hi.map a.eval) (mx.map a.eval)).run P w = .ok (l, r, k) w := by
 cases mx with
 | none =>
   cases s with
   | some _ => exact h3.elim
   | none =>
     obtain rfl : cap = k := by simp at hk; omega
     exact zde isS len cap h1 h2 l r hl hr hlr hrc
 | some z =>
   cases s with
   | none => exact h3.elim
   | some s =>
   cases hi with
   | none => simp at hm
   | some y =>
   cases q with
   | none => exact h2.elim
   | some q =>
   obtain ⟨k1, e1⟩ := h3
   obtain ⟨k2, e2⟩ := h2
   simp at hk hr
   subst hk; subst hr
   unfold Instr.sliceBounds
   cases lo with
   | none =>
     cases p with
     | some _ => exact h1.elim
     | none =>
       obtain rfl : l = 0 := by simp at hl; omega
       simp [e1, e2, Instr.sliceBound, asIntOf, hkc, hrc]
   | some x =>
     cases p with
     | none => exact h1.elim
     | some p =>
       obtain ⟨k3, e3⟩ := h1
       simp at hl
       subst hl
       simp [e1, e2, e3, Instr.sliceBound, asIntOf, hkc, hrc, hlr]
theorem yeq {h : Array Obj} {D : Nat -> Prop} {μ : Mu} {a : Act} {lo hi m : Option Operand} {vs : List AV} {p q s : Option Int} (e : three vs lo.isSome hi.isSome m.isSome = some (p, q, s)) (hv : Ops h D μ a (lo.toList ++ (hi.toList ++ m.toList)) vs) :
   zen a lo p /\ zen a hi q /\ zen a m s /\ (m.isSome = true -> hi.isSome = true) := by
 cases lo <;> cases hi <;> cases m <;> simp only [three, Option.isSome] at e <;> (try split at e) <;> (try cases e) <;> (try (rename_i he; simp at he; done)) <;> (try contradiction)
 · exact ⟨trivial, trivial, trivial, fun h => by cases h⟩
 · exact ⟨trivial, ⟨_, hv.1.inv_int⟩, trivial, fun h => by cases h⟩
 · exact ⟨trivial, ⟨_, hv.1.inv_int⟩, ⟨_, hv.2.1.inv_int⟩, fun _ => rfl⟩
 · exact ⟨⟨_, hv.1.inv_int⟩, trivial, trivial, fun h => by cases h⟩
 · exact ⟨⟨_, hv.1.inv_int⟩, ⟨_, hv.2.1.inv_int⟩, trivial, fun h => by cases h⟩
 · exact ⟨⟨_, hv.1.inv_int⟩, ⟨_, hv.2.1.inv_int⟩, ⟨_, hv.2.2.1.inv_int⟩, fun _ => rfl⟩
theorem zj9 {P : Program} (w : World) (t t' ty e : TypeId) (i : TypeInfo) (z : Value) (ht : P.underlying t = some (.slice e)) (ht' : P.underlying t' = some (.int .i64)) (hi : P.info? e = some i) (hz : i.zero = some z)
   (base : Option Addr) (sLen sCap : Nat) (m : Nat) (olds : List Value) (hs : 0 < i.size) (ho : ∀ w', w'.heap = w.heap -> (Builtin.firstCells i.size sLen (.slice base sLen sCap)).run P w' = .ok olds.toArray w')
   (hm : m <= 9223372036854775807) (hmb : m * i.bytes <= 140737488355328) (hg : sCap < sLen + m) (h63 : sLen + m <= 9223372036854775807) (hfit : Builtin.nextslicecap (sLen + m) sCap * i.bytes <= 281474976710656) :
   (Builtin.append_ #[t, t'] ty #[.slice base sLen sCap, .int .i64 (m : Nat)]).run P w =
     .ok (.slice (some ⟨w.heap.size, 0, none⟩) (sLen + m) (grownCap w (sLen + m) sCap e)) (w.drew.alloc (.cells (olds.toArray ++ Builtin.zeroCells z.cells m ++ Builtin.zeroCells z.cells (grownCap w (sLen + m) sCap e - (sLen + m))) e)) := by
 have hgt : ¬ (sLen + m <= sCap) := by omega
 have hw : IntKind.i64.wrap (m : Int) = m := by rw [IntKind.wrap_i64]; omega
 have h63' : ¬ (9223372036854775807 < ((sLen : Int) + (m : Int))) := by omega
 have h48' : ¬ (281474976710656 < Builtin.nextslicecap (sLen + m) sCap * i.bytes) := by omega
 have h48i : ¬ (281474976710656 < (m : Int) * (i.bytes : Int)) := by
   rw [<- Int.natCast_mul]
   omega
 have hneg : ¬ ((m : Int) < 0) := by omega
 have hfo := ho w.drew rfl
 have hz0 : m * i.size = 0 -> Builtin.zeroCells z.cells m = #[] := by
   intro h0
   have : m = 0 := by
     rcases Nat.mul_eq_zero.1 h0 with h | h
     · exact h
     · omega
   subst this
   simp [Builtin.zeroCells]
 by_cases h0 : m * i.size = 0
 · simp [Builtin.append_, run_underlying ht, run_underlying ht', sizeOf, typeInfo, zeroValue, hi, hz, asInt, asIntOf, hw, hgt, hneg, h63', h48', h48i, Question.forced, hfo, newRow, grownCap, h0, hz0 h0]
 · simp [Builtin.append_, run_underlying ht, run_underlying ht', sizeOf, typeInfo, zeroValue, hi, hz, asInt, asIntOf, hw, hgt, hneg, h63', h48', h48i, Question.forced, hfo, newRow, grownCap, h0]
theorem zkb {P : Program} (w : World) (t t' ty e : TypeId) (i : TypeInfo) (z : Value) (ht : P.underlying t = some (.slice e)) (ht' : P.underlying t' = some (.int .i64)) (hi : P.info? e = some i) (hz : i.zero = some z)
   (base : Option Addr) (sLen sCap : Nat) (m : Nat) (hs : 0 < i.size) (hm : m <= 9223372036854775807) (hmb : m * i.bytes <= 140737488355328) (hg : sLen + m <= sCap) {w' : World}
   (hst : ∀ ad, base = some ad -> (storeCells (ad.add (sLen * i.size)) (Builtin.zeroCells z.cells m).toList).run P w = .ok () w') (hb : base = none -> w' = w) :
   (Builtin.append_ #[t, t'] ty #[.slice base sLen sCap, .int .i64 (m : Nat)]).run P w = .ok (.slice base (sLen + m) sCap) w' := by
 have hw : IntKind.i64.wrap (m : Int) = m := by rw [IntKind.wrap_i64]; omega
 have h48i : ¬ (281474976710656 < (m : Int) * (i.bytes : Int)) := by
   rw [<- Int.natCast_mul]
   omega
 have hneg : ¬ ((m : Int) < 0) := by omega
 have hz0 : m * i.size = 0 -> Builtin.zeroCells z.cells m = #[] := by
   intro h0
   have : m = 0 := by
     rcases Nat.mul_eq_zero.1 h0 with h | h
     · exact h
     · omega
   subst this
   simp [Builtin.zeroCells]
 cases base with
 | none =>
   obtain rfl := hb rfl
   by_cases h0 : m * i.size = 0 <;> simp [Builtin.append_, run_underlying ht, run_underlying ht', sizeOf, typeInfo, zeroValue, hi, hz, asInt, asIntOf, hw, hneg, h48i, hg, h0]
 | some ad =>
   have hst := hst ad rfl
   by_cases h0 : m * i.size = 0
   · rw [hz0 h0] at hst
     simp [Builtin.append_, run_underlying ht, run_underlying ht', sizeOf, typeInfo, zeroValue, hi, hz, asInt, asIntOf, hw, hneg, h48i, hg, h0, hst]
   · simp [Builtin.append_, run_underlying ht, run_underlying ht', sizeOf, typeInfo, zeroValue, hi, hz, asInt, asIntOf, hw, hneg, h48i, hg, h0, hst]
def L4i (i j k : Int) (n : Nat) : Prop := 0 <= i /\ i <= j /\ j <= k /\ k <= n
theorem ycc {i j k : Int} {n : Nat} (h : ynh i j k (za7 n) = true) : L4i i j k n := by
 simp only [ynh, za7, Bool.and_eq_true, decide_eq_true_eq] at h
 exact ⟨h.1.1.1, h.1.1.2, h.1.2, of_decide_eq_true h.2⟩
section
variable {P : Program} {T : TT} {base : Nat} {M : Two} {W : World} {nt : Nat} {f : Nat -> Option AV} {g : Nat -> Option Ob} {c : Nat -> Bool} {a : Act} {w : World} {D : Nat -> Prop} {μ : Mu} {o : Oper}
theorem zlx (size c : Nat) (a : Option Addr) (l l' cap cap' : Nat) : Builtin.firstCells size c (.slice a l cap) = Builtin.firstCells size c (.slice a l' cap') := by
 cases a <;> rfl
theorem yjp (h : Sim base M W nt f g c a w D μ) {esz m : Nat} {ob : Nat -> Option Ob} (hob : ∀ id z, ob id = some z -> g id = some z) {x : AV} {src : Nat -> Nat -> AV} {u : Value} (e : zch std esz ob x = some (m, src)) (hx : ygy x = true) (r : R w.heap D μ x u) (k : Nat) (hk : k <= m) :
   ∃ news : List Value, news.length = k * esz /\ (∀ w', w'.heap = w.heap -> (Builtin.firstCells esz k u).run P w' = .ok news.toArray w') /\ (Builtin.lenOf u).run P w = .ok m w /\
     ∀ i j, i < k -> j < esz -> ∃ v, news[i * esz + j]? = some v /\ one v /\ R w.heap D zar (src i j) v := by
 obtain ⟨_, _, _, hlen, _⟩ := zf7 (P := P) h hob e r
 have key : ∀ (y : AV) (ad : Option Addr) (l cap : Nat), u = .slice ad l cap -> zch std esz ob y = some (k, src) -> R w.heap D μ y (.slice ad k cap) ->
     ∃ news : List Value, news.length = k * esz /\ (∀ w', w'.heap = w.heap -> (Builtin.firstCells esz k u).run P w' = .ok news.toArray w') /\ (Builtin.lenOf u).run P w = .ok m w /\
     ∀ i j, i < k -> j < esz -> ∃ v, news[i * esz + j]? = some v /\ one v /\ R w.heap D zar (src i j) v := by
   rintro y ad l cap rfl ey ry
   obtain ⟨news, n1, n2, n3, n4⟩ := zf7 (P := P) h hob ey ry
   exact ⟨news, n1, fun w' hw => by rw [zlx esz k ad l k cap cap]; exact n2 w' hw, hlen, n4⟩
 have lists : ∀ sz n get, zch std esz ob (.lst sz n get) = some (m, src) -> R w.heap D μ (.lst sz n get) u -> ∃ news : List Value, news.length = k * esz /\ (∀ w', w'.heap = w.heap -> (Builtin.firstCells esz k u).run P w' = .ok news.toArray w') /\ (Builtin.lenOf u).run P w = .ok m w /\
     ∀ i j, i < k -> j < esz -> ∃ v, news[i * esz + j]? = some v /\ one v /\ R w.heap D zar (src i j) v := by
   intro sz n get e9 r
   simp only [zch] at e9
   split at e9
   · rename_i hsz
     obtain rfl := za1 hsz
     cases e9
     cases r with
     | lst0 _ _ ad cap hn =>
       obtain rfl : k = 0 := by omega
       exact key (.lst sz 0 src) ad 0 cap rfl (by simp [zch, za3]) (.lst0 _ _ ad cap hn)
     | lst _ _ _ b o' cap vs hD hc hv h1 hr =>
       exact key (.lst sz k src) _ m cap rfl (by simp [zch, za3]) (.lst _ _ _ b o' cap vs hD (by omega) (fun i j hi hj => hv i j (by omega) hj) (fun i j hi hj => h1 i j (by omega) hj) (fun i j hi hj => hr i j (by omega) hj))
   · cases e9
 have rows : ∀ id sz off n, zch std esz ob (.sl id sz off n) = some (m, src) -> R w.heap D μ (.sl id sz off n) u -> ∃ news : List Value, news.length = k * esz /\ (∀ w', w'.heap = w.heap -> (Builtin.firstCells esz k u).run P w' = .ok news.toArray w') /\ (Builtin.lenOf u).run P w = .ok m w /\
     ∀ i j, i < k -> j < esz -> ∃ v, news[i * esz + j]? = some v /\ one v /\ R w.heap D zar (src i j) v := by
   intro id sz off n e9 r
   simp only [zch] at e9
   split at e9
   · rename_i hsz
     obtain rfl := za1 hsz
     split at e9
     · rename_i ty sz' n' get hg
       split at e9
       · rename_i hsz'
         obtain rfl := za1 hsz'
         cases e9
         cases r with
         | slv _ _ ad hm =>
           obtain rfl : k = 0 := by omega
           exact key (.sl id sz 0 0) ad 0 0 rfl (by simp [zch, za3, hg]) (.slv _ _ ad hm)
         | sl0 _ _ _ b z mm o hm ho =>
           obtain rfl : k = 0 := by omega
           exact key (.sl id sz off 0) _ 0 0 rfl (by simp [zch, za3, hg]) (.sl0 _ _ _ b z mm o hm ho)
         | sl _ _ _ _ b z mm cap hm hn hz ho =>
           exact key (.sl id sz off k) _ m cap rfl (by simp [zch, za3, hg]) (.sl _ _ _ _ b z mm cap hm (by omega) hz (by omega))
       · cases e9
     · cases e9
   · cases e9
 have none0 : k = 0 -> ∀ ad l cap, u = .slice ad l cap -> (ad = none -> cap = 0) -> ∃ news : List Value, news.length = k * esz /\ (∀ w', w'.heap = w.heap -> (Builtin.firstCells esz k u).run P w' = .ok news.toArray w') /\ (Builtin.lenOf u).run P w = .ok m w /\
     ∀ i j, i < k -> j < esz -> ∃ v, news[i * esz + j]? = some v /\ one v /\ R w.heap D zar (src i j) v := by
   rintro rfl ad l cap hu hc
   exact key (.lst esz 0 src) ad l cap hu (by simp [zch, za3]) (.lst0 _ _ ad cap hc)
 cases x with
 | lst sz n get => exact lists sz n get e r
 | lstx sz n get => exact lists sz n get e r.lessx
 | sl id sz off n => exact rows id sz off n e r
 | slc id sz off n cap => exact rows id sz off n e r.less
 | nils =>
   cases e
   cases r
   exact none0 (by omega) _ _ _ rfl (fun _ => rfl)
 | emp =>
   cases e
   cases r
   exact none0 (by omega) _ _ _ rfl (fun h => by cases h)
 | emz =>
   cases e
   cases r
   exact none0 (by omega) _ _ _ rfl (fun h => by cases h)
 | str l => cases hx
 | _ => simp [zch] at e
theorem Sim.seg (h : Sim base M W nt f g c a w D μ) {id b z k ty sz : Nat} {get src : Nat -> Nat -> AV} (hμ : μ id = some (some (b, z, k))) (hg : g id = some (.row ty sz k get)) (hc : c id = false) (hsz : 0 < sz)
   {off m : Nat} (hoff : off + m <= k) {news : List Value} (n1 : news.length = m * sz) (n4 : ∀ i j, i < m -> j < sz -> ∃ v, news[i * sz + j]? = some v /\ one v /\ R w.heap D zar (src i j) v) :
   ∃ w', (storeCells ⟨b, off * sz, none⟩ news).run P w = .ok () w' /\
     Sim base M W nt f (zb7 g [(id, .row ty sz k (fun i j => L3 std zrc (L3 std zdr off m i) (src (L2 std Nat.sub i off) j) (get i j)))]) c a w' D μ := by
 obtain ⟨_, C, t0, fr, hh, hcs, hf, hle, hrow⟩ := h.obs id _ _ hg hμ
 have hmz : off * sz + m * sz <= C.size := by
   have h1 : (off + m) * sz <= k * sz := Nat.mul_le_mul_right _ hoff
   rw [Nat.add_mul] at h1
   omega
 have hnews : ∀ v ∈ news, one v := by
   intro v hv
   obtain ⟨q, hq⟩ := List.getElem?_of_mem hv
   have hql : q < m * sz := by rw [<- n1]; exact (List.getElem?_eq_some_iff.1 hq).1
   obtain ⟨v', v1, v2, v3⟩ := n4 (q / sz) (q % sz) (Nat.div_lt_of_lt_mul (by rw [Nat.mul_comm]; exact hql)) (Nat.mod_lt _ (by omega))
   rw [show q / sz * sz + q % sz = q by rw [Nat.mul_comm]; exact Nat.div_add_mod q sz, hq] at v1
   cases v1
   exact v2
 have hst := zcw P b (off * sz) t0 fr news 0 C w hh (by rw [hcs]; exact hf.1) (by rw [n1]; omega) hnews
 simp only [Nat.add_zero] at hst
 refine ⟨_, hst, h.write (C' := zb0 C (off * sz) news) hμ hg (by simp) (by simp) hc hh (fun hD => ?_)⟩
 refine ⟨rfl, _, t0, fr, setRow_heap w b C _ t0 fr hh, by rw [zaq, hcs], ⟨hf.1, hf.2.1, zbn hf.2.2.1 hnews, hf.2.2.2⟩, hle, fun i j hi' hj => ?_⟩
 obtain ⟨y0, y1, y2, y3⟩ := hrow i j hi' hj
 have hin : i * sz + j < C.size := (Array.getElem?_eq_some_iff.1 y1).1
 rw [zaf _ _ _ _ hin]
 by_cases hseg : off <= i /\ i < off + m
 · have hB : L3 std zdr off m i = true := by
     show (zbh off i && zb3 i (off + m)) = true
     rw [Bool.and_eq_true, zc7, zcr]
     exact hseg
   obtain ⟨v, v1, v2, v3⟩ := n4 (i - off) j (by omega) hj
   have hi1 : i * sz = off * sz + (i - off) * sz := by rw [<- Nat.add_mul]; congr 1; omega
   have hlt := (List.getElem?_eq_some_iff.1 v1).1
   refine ⟨v, ?_, v2, ?_⟩
   · rw [if_pos ⟨by omega, by omega⟩, show i * sz + j - off * sz = (i - off) * sz + j by omega]
     exact v1
   · show R _ D zar (L3 std zrc (L3 std zdr off m i) (src (L2 std Nat.sub i off) j) (get i j)) v
     rw [hB]
     exact v3.mono hD (fun _ h => h) (fun _ _ h => h)
 · have hB : L3 std zdr off m i = false := by
     show (zbh off i && zb3 i (off + m)) = false
     cases hq : (zbh off i && zb3 i (off + m)) with
     | false => rfl
     | true =>
       rw [Bool.and_eq_true, zc7, zcr] at hq
       exact absurd hq hseg
   refine ⟨y0, ?_, y2, ?_⟩
   · rw [if_neg]
     · exact y1
     · rintro ⟨p1, p2⟩
       rw [n1] at p2
       apply hseg
       constructor
       · apply Nat.le_of_not_lt
         intro hlt
         have h3 : (i + 1) * sz <= off * sz := Nat.mul_le_mul_right _ hlt
         rw [Nat.add_mul] at h3
         omega
       · apply Nat.lt_of_not_le
         intro hge
         have h3 : (off + m) * sz <= i * sz := Nat.mul_le_mul_right _ hge
         rw [Nat.add_mul] at h3
         omega
   · show R _ D zar (L3 std zrc (L3 std zdr off m i) (src (L2 std Nat.sub i off) j) (get i j)) y0
     rw [hB]
     exact y3.mono hD (fun _ h => h) (fun _ _ h => h)
variable (h : Sim base M W nt f g c a w D μ) (hd : ∀ d, o.dst = some d -> d < nt)
include h hd
theorem yfb (hT : zbd P T) {x : Operand} {t : Nat} {r : List Nat} {ts : Array TypeId} (hts : ts.toList = t :: r) (e : o.op = .call { callee := .builtin .cap, args := #[x], argTypes := ts }) {vals : List AV}
   (hv : Ops w.heap D μ a [x] vals) : zbw P base M W nt f g c o a w (yt6 T std t vals) := by
 match vals, hv with
 | [v], ⟨hv, _⟩ =>
   have h0 : ts[0]? = some t := by rw [<- Array.getElem?_toList, hts]; rfl
   unfold yt6
   split
   · rename_i id sz off n cap he
     simp only [List.cons.injEq, and_true] at he
     subst he
     split
     · rename_i hi
       have ok := (hT _ _ hi).k.1
       refine za0 h hd (u := .int .i64 (cap : Nat)) ?_ (.int _ _)
       unfold execOp
       rw [e]
       obtain ⟨ad, hu⟩ : ∃ ad, a.eval x = .slice ad n cap := by
         generalize a.eval x = u at hv
         cases hv <;> exact ⟨_, rfl⟩
       simp [resolve, invoke, builtin, Builtin.cap_, h0, run_underlying ok, goInt, hu]
     · trivial
   · trivial
theorem zwe (hT : zbd P T) {t t' : Nat} {x y : Operand} {ts : Array TypeId} (hts : ts.toList = [t, t']) (e : o.op = .call { callee := .builtin .copy, args := #[x, y], argTypes := ts }) {vals : List AV} (hv : Ops w.heap D μ a [x, y] vals)
   {ob : Nat -> Option Ob} (hob : ∀ id z, ob id = some z -> g id = some z) {ice : Nat -> Bool} (hice : ∀ id, ice id = false -> c id = false) :
   zbw P base M W nt f g c o a w (zqy T std t t' ob ice vals) := by
 obtain rfl : ts = #[t, t'] := by apply Array.ext'; simpa using hts
 unfold zqy
 split
 · rename_i id sz off n cap xv
   obtain ⟨hx, hy, _⟩ := hv
   split
   · rename_i sz0 ag ze e' esz eb eqf p1 p2 p3 hi
     obtain ⟨ok1, ok2⟩ := (hT t _ hi).k
     obtain ⟨ei', hei', hes⟩ := Option.map_eq_some_iff.1 ok2
     simp only [Prod.mk.injEq] at hes
     obtain ⟨hes1, hes2⟩ := hes
     subst hes1; subst hes2
     split
     · rename_i m src hsrc
       have c0 : ygy xv = true := by cases hx : ygy xv <;> simp_all
       have c1 : zcj T t' = true := by cases hx : zcj T t' <;> simp_all
       have c2 : zbh 1 ei'.size = true := by cases hx : zbh 1 ei'.size <;> simp_all
       have c3 : (T.find e').isSome = true := by cases hx : (T.find e').isSome <;> simp_all
       rw [c0, c1, c2, c3] at hsrc
       simp only [cond_true] at hsrc
       split
       · rename_i ty sz' k get hsz hic hg
         obtain rfl := za1 hsz
         have hg := hob _ _ hg
         have hic := hice _ hic
         split
         · rename_i hsz'
           obtain rfl := za1 hsz'
           intro hb
           have hb' : 0 < n := by
             have hb : zb3 0 n = true := hb
             rw [zc7] at hb
             exact hb
           show Adv P base M W nt f g c o a w (.int .i64 (za7 (Nat.min m n))) [(id, .row ty ei'.size k (fun i j => L3 std zrc (L3 std zdr off (Nat.min m n) i) (src (L2 std Nat.sub i off) j) (get i j)))] []
           obtain ⟨news, n1, n2, n3, n4⟩ := yjp (P := P) h hob hsrc c0 hy (Nat.min m n) (Nat.min_le_left _ _)
           have hmn : Nat.min m n <= n := Nat.min_le_right _ _
           have run : ∀ u w', (Builtin.copy_ #[t, t'] o.type #[a.eval x, a.eval y]).run P w = .ok u w' -> (execOp a.eval o).run P w = .ok (.value u) w' := by
             intro u w' hu
             unfold execOp
             rw [e]
             simp [resolve, invoke, builtin, hu]
           generalize a.eval x = u at hx run
           cases hx with
           | slcv => omega
           | slc0 => omega
           | slc _ _ _ _ _ b z mm hμ hn hz ho =>
             have hm := (h.obs id _ _ hg hμ).1
             subst hm
             obtain ⟨w', hst, hsim⟩ := h.seg (P := P) hμ hg hic (zb2 c2) (off := off) (m := Nat.min m n) (by omega) n1 n4
             have hso : (sizeOf e').run P w = .ok ei'.size w := by simp [sizeOf, typeInfo, program, Sem.run, hei']
             have hfc := n2 w rfl
             have hcm : Nat.min n m = Nat.min m n := Nat.min_comm n m
             have hrun : (Builtin.copy_ #[t, t'] o.type #[.slice (some ⟨b, off * ei'.size, none⟩) n cap, a.eval y]).run P w = .ok (goInt (Nat.min m n)) w' := by
               simp [Builtin.copy_, run_underlying ok1, n3, hcm, hso, hfc, hst]
             intro K Q hK
             unfold Oper.wp
             rw [run _ _ hrun]
             exact hK _ _ ⟨_, _, hsim.put hd (.int _ _)⟩
         · trivial
       · trivial
     · trivial
   · trivial
 · trivial
theorem zrm (hT : zbd P T) {t : TypeId} {x : Operand} {lo hi m : Option Operand} (e : o.op = .slice t x lo hi m) {vals : List AV} (hv : Ops w.heap D μ a (x :: (lo.toList ++ (hi.toList ++ m.toList))) vals) :
   zbw P base M W nt f g c o a w (zt0 T std t lo.isSome hi.isSome m.isSome vals) := by
 match vals, hv with
 | v :: vs, ⟨hx, hv⟩ =>
   unfold zt0
   simp only
   split
   · rename_i sz0 ag ze e' esz eb eqf p1 p2 p3 hi0
     obtain ⟨ok1, ok2⟩ := (hT t _ hi0).k
     obtain ⟨ei', hei', hes⟩ := Option.map_eq_some_iff.1 ok2
     simp only [Prod.mk.injEq] at hes
     obtain ⟨hes1, hes2⟩ := hes
     subst hes1; subst hes2
     have hso : (sizeOf e').run P w = .ok ei'.size w := by simp [sizeOf, typeInfo, program, Sem.run, hei']
     split
     · rename_i p q s h3
       obtain ⟨b1, b2, b3, b4⟩ := yeq h3 hv
       have run : ∀ u, (Instr.sliceAt t (a.eval x) (lo.map a.eval) (hi.map a.eval) (m.map a.eval)).run P w = .ok u w -> (execOp a.eval o).run P w = .ok (.value u) w := by
         intro u hu; unfold execOp; rw [e]; simp [hu]
       generalize a.eval x = u at hx run
       have go : ∀ (ad : Option Addr) (n cap l r k : Nat), u = .slice ad n cap -> p.getD 0 = (l : Int) -> q.getD n = (r : Int) -> s.getD cap = (k : Int) -> l <= r -> r <= k -> k <= cap ->
           (Instr.sliceAt t u (lo.map a.eval) (hi.map a.eval) (m.map a.eval)).run P w = .ok (.slice (if k = l then ad else ad.map (·.add (l * ei'.size))) (r - l) (k - l)) w := by
         rintro ad n cap l r k rfl g1 g2 g3 g4 g5 g6
         have hbr := zt3 (P := P) (w := w) true n cap b1 b2 b3 b4 l r k g1 g2 g3 g4 g5 g6
         simp [Instr.sliceAt, Instr.slice, run_underlying ok1, hbr, hso]
       have nums : ∀ (n cap top : Nat), L4i (gei std p 0) (gei std q n) (gei std s cap) top -> ∃ l r k : Nat, p.getD 0 = (l : Int) /\ q.getD n = (r : Int) /\ s.getD cap = (k : Int) /\ l <= r /\ r <= k /\ k <= top /\ geo std p 0 = l /\ geo std q n = r /\ geo std s cap = k := by
         rintro n cap top ⟨q1, q2, q3, q4⟩
         have e0 : ∀ (p : Option Int) (n : Nat), gei std p n = p.getD n := fun p n => by cases p <;> rfl
         have e1 : ∀ (p : Option Int) (n : Nat), geo std p n = (p.getD n).toNat := fun p n => by cases p <;> simp [geo, std]
         simp only [e0] at q1 q2 q3 q4
         refine ⟨(p.getD 0).toNat, (q.getD n).toNat, (s.getD cap).toNat, ?_, ?_, ?_, ?_, ?_, ?_, e1 _ _, e1 _ _, e1 _ _⟩ <;> simp only [Int.natCast_zero, Int.ofNat_zero] at * <;> omega
       split
       · rename_i id sz off n cap
         split
         · rename_i hsz
           obtain rfl := za1 hsz
           intro hb
           obtain ⟨l, r, k, g1, g2, g3, g4, g5, g6, k1, k2, k3⟩ := nums n cap cap (ycc hb)
           have hgo := fun ad h => go ad n cap l r k h g1 g2 g3 g4 g5 g6
           have hoff : ∀ (p : Option Int) (off : Nat), yef std off p = off + geo std p 0 := fun p off => by cases p <;> simp [yef, geo, L2, std]
           have hsub : ∀ (p : Option Int) (x : Nat), zrb std x p = x - geo std p 0 := fun p off => by cases p <;> simp [zrb, geo, L2, std]
           rw [show yef (fun {α β} => std) off p = off + geo std p 0 from hoff p off, show zrb (fun {α β} => std) (geo std q n) p = geo std q n - geo std p 0 from hsub p _, show zrb (fun {α β} => std) (geo std s cap) p = geo std s cap - geo std p 0 from hsub p _, show geo (fun {α β} => std) p 0 = l from k1, show geo (fun {α β} => std) q n = r from k2, show geo (fun {α β} => std) s cap = k from k3]
           show Adv P base M W nt f g c o a w (.slc id ei'.size (off + l) (r - l) (k - l)) [] []
           cases hx with
           | slcv _ _ ad hμ =>
             have h1 := hgo ad rfl
             obtain rfl : l = 0 := by omega
             obtain rfl : r = 0 := by omega
             obtain rfl : k = 0 := by omega
             exact za0 h hd (run _ h1) (.slcv _ _ _ hμ)
           | slc0 _ _ _ b z mm o' hμ ho =>
             have h1 := hgo _ rfl
             obtain rfl : l = 0 := by omega
             obtain rfl : r = 0 := by omega
             obtain rfl : k = 0 := by omega
             exact za0 h hd (run _ h1) (.slc0 _ _ _ b z mm _ hμ ho)
           | slc _ _ _ _ _ b z mm hμ hn hz ho =>
             have h1 := hgo _ rfl
             by_cases hcl : k = l
             · subst hcl
               rw [if_pos rfl] at h1
               have h0 : r - k = 0 := by omega
               rw [h0, Nat.sub_self] at h1
               rw [h0, Nat.sub_self]
               exact za0 h hd (run _ h1) (.slc0 _ _ _ b z mm _ hμ (by omega))
             · rw [if_neg hcl] at h1
               simp only [Option.map_some, zbb] at h1
               rw [<- Nat.add_mul] at h1
               refine za0 h hd (run _ h1) (.slc _ _ _ _ _ b z mm hμ (by omega) (Nat.le_trans (Nat.mul_le_mul_right _ (by omega)) hz) (by omega))
         · trivial
       · rename_i id sz off n
         split
         · rename_i x0 hsz
           obtain rfl := za1 hsz
           intro hb
           obtain ⟨l, r, k, g1, g2, g3, g4, g5, g6, k1, k2, k3⟩ := nums n n n (ycc hb)
           have hoff : ∀ (p : Option Int) (off : Nat), yef std off p = off + geo std p 0 := fun p off => by cases p <;> simp [yef, geo, L2, std]
           have hsub : ∀ (p : Option Int) (x : Nat), zrb std x p = x - geo std p 0 := fun p off => by cases p <;> simp [zrb, geo, L2, std]
           rw [show yef (fun {α β} => std) off p = off + geo std p 0 from hoff p off, show zrb (fun {α β} => std) (geo std q n) p = geo std q n - geo std p 0 from hsub p _, show zrb (fun {α β} => std) (geo std (some x0) n) p = geo std (some x0) n - geo std p 0 from hsub p _, show geo (fun {α β} => std) p 0 = l from k1, show geo (fun {α β} => std) q n = r from k2, show geo (fun {α β} => std) (some x0) n = k from k3]
           show Adv P base M W nt f g c o a w (.slc id ei'.size (off + l) (r - l) (k - l)) [] []
           have g3' : ∀ cap : Nat, (some x0).getD (cap : Int) = (k : Int) := fun _ => g3
           cases hx with
           | slv _ _ ad hμ =>
             have h1 := go ad 0 0 l r k rfl g1 g2 (g3' 0) g4 g5 g6
             obtain rfl : l = 0 := by omega
             obtain rfl : r = 0 := by omega
             obtain rfl : k = 0 := by omega
             exact za0 h hd (run _ h1) (.slcv _ _ _ hμ)
           | sl0 _ _ _ b z mm o' hμ ho =>
             have h1 := go _ 0 0 l r k rfl g1 g2 (g3' 0) g4 g5 g6
             obtain rfl : l = 0 := by omega
             obtain rfl : r = 0 := by omega
             obtain rfl : k = 0 := by omega
             exact za0 h hd (run _ h1) (.slc0 _ _ _ b z mm _ hμ ho)
           | sl _ _ _ _ b z mm cap hμ hn hz ho =>
             have h1 := go _ n cap l r k rfl g1 g2 (g3' cap) g4 g5 (by omega)
             by_cases hcl : k = l
             · subst hcl
               rw [if_pos rfl] at h1
               have h0 : r - k = 0 := by omega
               rw [h0, Nat.sub_self] at h1
               rw [h0, Nat.sub_self]
               exact za0 h hd (run _ h1) (.slc0 _ _ _ b z mm _ hμ (by omega))
             · rw [if_neg hcl] at h1
               simp only [Option.map_some, zbb] at h1
               rw [<- Nat.add_mul] at h1
               refine za0 h hd (run _ h1) (.slc _ _ _ _ _ b z mm hμ (by omega) (Nat.le_trans (Nat.mul_le_mul_right _ (by omega)) hz) (by omega))
         · trivial
       · rename_i sz n get
         split
         · rename_i x0 hsz
           obtain rfl := za1 hsz
           intro hb
           have hb : (ynh (gei std p 0) (gei std q n) x0 (za7 n) && ieq (gei std q n) x0) = true := hb
           rw [Bool.and_eq_true] at hb
           obtain ⟨hb, heq⟩ := hb
           have heq : gei std q n = x0 := eq_of_beq heq
           obtain ⟨l, r, k, g1, g2, g3, g4, g5, g6, k1, k2, k3⟩ := nums n n n (ycc hb)
           have hoff : ∀ (p : Option Int) (off : Nat), yef std off p = off + geo std p 0 := fun p off => by cases p <;> simp [yef, geo, L2, std]
           have hsub : ∀ (p : Option Int) (x : Nat), zrb std x p = x - geo std p 0 := fun p off => by cases p <;> simp [zrb, geo, L2, std]
           rw [show zrb (fun {α β} => std) (geo std q n) p = geo std q n - geo std p 0 from hsub p _, show geo (fun {α β} => std) p 0 = l from k1, show geo (fun {α β} => std) q n = r from k2]
           have g3' : ∀ cap : Nat, (some x0).getD (cap : Int) = (k : Int) := fun _ => g3
           have hrk : r = k := by
             have e0 : gei std q n = q.getD n := by cases q <;> rfl
             rw [e0, g2] at heq
             have g3 : x0 = (k : Int) := g3
             omega
           subst hrk
           have hcut : ∀ i j, yej std get p i j = get (l + i) j := by
             intro i j
             cases p with
             | none =>
               have : l = 0 := by rw [<- k1]; rfl
               subst this
               simp [yej]
             | some a =>
               have : l = a.toNat := by rw [<- k1]; rfl
               subst this
               rfl
           cases hx with
           | lst0 _ _ ad cap hn =>
             have h1 := go ad 0 cap l r r rfl g1 g2 (g3' cap) g4 g5 (by omega)
             obtain rfl : l = 0 := by omega
             obtain rfl : r = 0 := by omega
             exact za0 h hd (run _ h1) (.lstx _ _ _ _ (.lst0 _ _ _ _ (fun _ => rfl)))
           | lst _ _ _ b o' cap vs hD hc hv hone hr =>
             have h1 := go _ n cap l r r rfl g1 g2 (g3' cap) g4 g5 (by omega)
             refine za0 h hd (run _ h1) (.lstx _ _ _ _ ?_)
             by_cases hcl : r = l
             · subst hcl
               rw [if_pos rfl, Nat.sub_self]
               exact .lst0 _ _ _ _ (fun _ => rfl)
             · rw [if_neg hcl]
               simp only [Option.map_some, zbb]
               refine .lst _ _ _ b _ _ (fun i j => vs (l + i) j) hD (Nat.le_refl _) (fun i j hi hj => ?_) (fun i j hi hj => hone _ _ (by omega) hj) (fun i j hi hj => ?_)
               · have := hv (l + i) j (by omega) hj
                 rw [Nat.add_mul] at this
                 rw [show o' + l * ei'.size + i * ei'.size + j = o' + (l * ei'.size + i * ei'.size) + j by omega]
                 exact this
               · rw [show yej (fun {α β} => std) get p i j = get (l + i) j from hcut i j]
                 exact hr _ _ (by omega) hj
         · trivial
       · trivial
     · trivial
   · trivial
omit hd in
theorem ztk (hT : zbd P T) {t t' ty e : Nat} {i : TypeInfo} {ei : TI} (ht : P.underlying t = some (.slice e)) (hi : P.info? e = some i) (hei : T.find e = some ei) (hs : 0 < i.size) {ob : Nat -> Option Ob} (hob : ∀ id z, ob id = some z -> g id = some z)
   {x : AV} {u : Value} {q : Bool} {m : Nat} {src : Nat -> Nat -> AV} (es : yrp T std i.size i.bytes ei t' ob x = some (q, m, src)) (hq : q = true) (hx : R w.heap D μ x u) :
   ∃ news : List Value, news.length = m * i.size /\ (∀ a b, a < m -> b < i.size -> ∃ v, news[a * i.size + b]? = some v /\ one v /\ R w.heap D zar (src a b) v) /\
     (∀ base sLen sCap w', sLen + m <= sCap -> (∀ ad, base = some ad -> (storeCells (Addr.add ad (sLen * i.size)) news).run P w = .ok () w') -> (base = none -> w' = w) -> (Builtin.append_ #[t, t'] ty #[.slice base sLen sCap, u]).run P w = .ok (.slice base (sLen + m) sCap) w') /\
     (∀ base sLen sCap olds z, i.zero = some z -> (∀ w', w'.heap = w.heap -> (Builtin.firstCells i.size sLen (.slice base sLen sCap)).run P w' = .ok (List.toArray olds) w') -> sCap < sLen + m -> sLen + m <= 9223372036854775807 -> Builtin.nextslicecap (sLen + m) sCap * i.bytes <= 281474976710656 ->
       (Builtin.append_ #[t, t'] ty #[.slice base sLen sCap, u]).run P w = .ok (.slice (some ⟨w.heap.size, 0, none⟩) (sLen + m) (grownCap w (sLen + m) sCap e)) (w.drew.alloc (.cells (olds.toArray ++ news.toArray ++ Builtin.zeroCells z.cells (grownCap w (sLen + m) sCap e - (sLen + m))) e))) := by
 unfold yrp at es
 split at es
 · rename_i hni
   have hni := zfx hT hni
   split at es
   · rename_i m' g' hsrc
     cases es
     obtain ⟨news, n1, n2, n3, n4⟩ := zf7 (P := P) h hob hsrc hx
     refine ⟨news, n1, n4, fun base sLen sCap w' h1 h2 h3 => zcc w t t' ty e i ht hni hi base sLen sCap u m news n2 n3 h1 h2 h3, fun base sLen sCap olds z hz ho h1 h2 h3 => zbc w t t' ty e i z ht hni hi hz base sLen sCap u m olds news ho n2 n3 h1 h2 h3⟩
   · cases es
 · split at es
   · rename_i n hk hfr
     have hk' : P.underlying t' = some (.int .i64) := by
       unfold yca at hk
       split at hk
       · rename_i hi'; exact (hT t' _ hi').k
       · cases hk
     cases es
     have hq : ((decide (0 <= n) && decide (n <= 9223372036854775807)) && zbx i.bytes 0 n.toNat) = true := hq
     simp only [zbx, Bool.and_eq_true, decide_eq_true_eq, Nat.zero_add] at hq
     obtain ⟨⟨q1, q2⟩, q3, q4⟩ := hq
     obtain rfl := hx.inv_int
     obtain ⟨ii, z0, i1, i2, i3, i4, i5, i6⟩ := (hT e ei hei).info
     rw [hi] at i1
     cases i1
     have hzs : z0.cells.size = i.size := by rw [i5, <- i2]
     have hzl : ei.zero.length = i.size := by rw [(i6 w.heap D μ).1, hzs]
     have hn : n = ((n.toNat : Nat) : Int) := by omega
     refine ⟨(Builtin.zeroCells z0.cells n.toNat).toList, by simp [size_zeroCells, hzs, std], fun a' b' ha hb => ?_, fun base sLen sCap w' h1 h2 h3 => ?_, fun base sLen sCap olds z hz ho h1 h2 h3 => ?_⟩
     · refine ⟨_, zdw hzs ha hb, i4 _ _ (getD_some (by omega)), ?_⟩
       show R w.heap D zar (zbl .dead ei.zero b') _
       exact zcv ((i6 w.heap D μ).2 b' _ _ (zak .dead ei.zero b' (by omega)) (getD_some (by omega))) (zc4 hfr _ _ (zak _ _ _ (by omega)))
     · have := zkb (P := P) w t t' ty e i z0 ht hk' hi i3 base sLen sCap n.toNat hs (by omega) q3 h1 h2 h3
       rw [<- hn] at this
       exact this
     · have hz0 := hz
       rw [i3] at hz
       cases hz
       have := zj9 (P := P) w t t' ty e i z0 ht hk' hi i3 base sLen sCap n.toNat olds hs ho (by omega) q3 h1 h2 h3
       rw [<- hn] at this
       rw [show (Builtin.zeroCells z0.cells n.toNat).toList.toArray = Builtin.zeroCells z0.cells n.toNat by simp]
       rw [i3] at hz0
       exact this
   · cases es
theorem zph (hT : zbd P T) {x y : Operand} {ts : Array TypeId} {t t' : Nat} (hts : ts.toList = [t, t']) (e : o.op = .call { callee := .builtin .append, args := #[x, y], argTypes := ts }) {vals : List AV}
   (hv : Ops w.heap D μ a [x, y] vals) {ob : Nat -> Option Ob} (hob : ∀ id z, ob id = some z -> g id = some z) {ice : Nat -> Bool} (hice : ∀ id, ice id = false -> c id = false) :
   zbw P base M W nt f g c o a w (zia T std o.dst t t' ob ice (zcd g o.op o.dst) vals) := by
 obtain rfl : ts = #[t, t'] := by apply Array.ext'; simpa using hts
 unfold zia
 split
 · rename_i id sz off n cap xv
   obtain ⟨hs, hv, _⟩ := hv
   split
   · rename_i d hc
     obtain ⟨hn, hdst⟩ := zbg hc
     have hnew : g d = none := by
       simp only [zcd, e, zbz, hdst] at hn
       cases hg : g d with
       | none => rfl
       | some _ => rw [hg] at hn; cases hn
     split
     · rename_i sz0 ag ze e' esz eb eqf p1 p2 p3 hi
       obtain ⟨ok1, ok2⟩ := (hT t _ hi).k
       obtain ⟨ei', hei', hes⟩ := Option.map_eq_some_iff.1 ok2
       simp only [Prod.mk.injEq] at hes
       obtain ⟨hes1, hes2⟩ := hes
       subst hes1; subst hes2
       split
       · rename_i ei hei
         split
         · rename_i q m src hsrc
           have c2 : zbh 1 ei'.size = true := by cases hx : zbh 1 ei'.size <;> simp_all
           rw [c2] at hsrc
           simp only [cond_true] at hsrc
           have hsp := zb2 c2
           split
           · rename_i ty sz' k get hsz hic hg
             obtain rfl := za1 hsz
             have hg := hob _ _ hg
             have hic := hice _ hic
             split
             · rename_i hsz' hty
               obtain rfl := za1 hsz'
               obtain rfl : e' = ty := (za1 hty).symm
               have run : ∀ u w', (Builtin.append_ #[t, t'] o.type #[a.eval x, a.eval y]).run P w = .ok u w' -> (execOp a.eval o).run P w = .ok (.value u) w' := by
                 intro u w' hu
                 unfold execOp
                 rw [e]
                 simp [resolve, invoke, builtin, hu]
               obtain ⟨ii, z0, i1, i2, i3, i4, i5, i6⟩ := (hT e' ei hei).info
               rw [hei'] at i1
               cases i1
               have hzs : z0.cells.size = ei'.size := by rw [i5, <- i2]
               refine ⟨fun hb => ?_, fun hb hr => ?_⟩
               · have hb : (q && zbh (n + m) cap) = true := hb
                 rw [Bool.and_eq_true, zcr] at hb
                 obtain ⟨news, n1, n4, nin, nnew⟩ := ztk (P := P) (ty := o.type) h hT ok1 hei' hei hsp hob hsrc hb.1 hv
                 show Adv P base M W nt f g c o a w (.slc id ei'.size off (n + m) cap) [(id, .row e' ei'.size k (fun i j => L3 std zrc (L3 std zdr (off + n) m i) (src (L2 std Nat.sub i (off + n)) j) (get i j)))] []
                 have same : m = 0 -> ∀ ad, a.eval x = .slice ad 0 0 -> n = 0 -> cap = 0 -> R w.heap D μ (.slc id ei'.size off 0 0) (a.eval x) -> Adv P base M W nt f g c o a w (.slc id ei'.size off (n + m) cap) [(id, .row e' ei'.size k (fun i j => L3 std zrc (L3 std zdr (off + n) m i) (src (L2 std Nat.sub i (off + n)) j) (get i j)))] [] := by
                   rintro rfl ad hu rfl rfl hr K Q hK
                   have hnil : news = [] := List.eq_nil_of_length_eq_zero (by rw [n1]; omega)
                   subst hnil
                   have hrun := nin ad 0 0 w (by omega) (fun ad _ => rfl) (fun _ => rfl)
                   rw [hu] at run hr
                   unfold Oper.wp
                   rw [run _ _ hrun]
                   have e1 : (fun i j => L3 std zrc (L3 std zdr (off + 0) 0 i) (src (L2 std Nat.sub i (off + 0)) j) (get i j)) = get := by
                     funext i j
                     have : L3 std zdr (off + 0) 0 i = false := by
                       show (zbh (off + 0) i && zb3 i (off + 0 + 0)) = false
                       cases hq : (zbh (off + 0) i && zb3 i (off + 0 + 0)) with
                       | false => rfl
                       | true =>
                         rw [Bool.and_eq_true, zc7, zcr] at hq
                         omega
                     rw [this]; rfl
                   rw [e1] at hK
                   have e2 : zb7 g [(id, .row e' ei'.size k get)] = g := by
                     funext q
                     by_cases hq : q = id
                     · subst hq; simp [zb7, za2, za3, hg]
                     · simp [zb7, za2, zac (fun x => hq x.symm : ¬ id = q)]
                   rw [e2] at hK
                   exact hK _ _ ⟨_, _, h.put hd hr⟩
                 generalize hu : a.eval x = u at hs
                 cases hs with
                 | slcv _ _ ad hμ => exact same (by omega) ad hu rfl rfl (by rw [hu]; exact .slcv _ _ _ hμ)
                 | slc0 _ _ _ b z mm o' hμ ho => exact same (by omega) _ hu rfl rfl (by rw [hu]; exact .slc0 _ _ _ _ _ _ _ hμ ho)
                 | slc _ _ _ _ _ b z mm hμ hnc hz ho =>
                   have hm := (h.obs id _ _ hg hμ).1
                   subst hm
                   obtain ⟨w', hst, hsim⟩ := h.seg (P := P) hμ hg hic hsp (off := off + n) (m := m) (by omega) n1 n4
                   have hrun := nin (some ⟨b, off * ei'.size, none⟩) n cap w' hb.2 (fun ad had => by cases had; rw [zbb, <- Nat.add_mul]; exact hst) (fun hx => by cases hx)
                   rw [hu] at run
                   intro K Q hK
                   unfold Oper.wp
                   rw [run _ _ hrun]
                   exact hK _ _ ⟨_, _, hsim.put hd (.slc _ _ _ _ _ b z k hμ hb.2 hz ho)⟩
               · have hb : (q && zbh (n + m) cap) = false := hb
                 have hr : (q && zbx ei'.bytes n m) = true := hr
                 simp only [zbx, Bool.and_eq_true, decide_eq_true_eq] at hr
                 obtain ⟨hq, hr1, hr2⟩ := hr
                 rw [hq, Bool.true_and] at hb
                 have hg0 : cap < n + m := by
                   apply Nat.lt_of_not_le
                   intro hle
                   have : zbh (n + m) cap = true := by rw [zcr]; exact hle
                   rw [hb] at this; cases this
                 obtain ⟨news, n1, n4, nin, nnew⟩ := ztk (P := P) (ty := o.type) h hT ok1 hei' hei hsp hob hsrc hq hv
                 show Adv P base M W nt f g c o a w (.sl d ei'.size 0 (n + m)) [(d, .row e' ei'.size (n + m) (fun i j => L3 std zrc (L2 std zb3 i n) (get (L2 std Nat.add off i) j) (src (L2 std Nat.sub i n) j)))] []
                 obtain ⟨olds, o1, o2, o4⟩ : ∃ olds : List Value, olds.length = n * ei'.size /\ (∀ w', w'.heap = w.heap -> (Builtin.firstCells ei'.size n (a.eval x)).run P w' = .ok olds.toArray w') /\ ∀ i j, i < n -> j < ei'.size -> ∃ v, olds[i * ei'.size + j]? = some v /\ one v /\ R w.heap D zar (get (off + i) j) v := by
                   obtain ⟨olds, o1, o2, _, o4⟩ := zf7 (P := P) (esz := ei'.size) (m := n) (x := .slc id ei'.size off n cap) (src := fun i j => get (off + i) j) (ob := g) h (fun _ _ h => h) (by simp only [zch, za3, hg]; rfl) hs
                   exact ⟨olds, o1, o2, o4⟩
                 obtain ⟨base', hbase⟩ : ∃ base', a.eval x = .slice base' n cap := by
                   generalize a.eval x = u at hs
                   cases hs <;> exact ⟨_, rfl⟩
                 rw [hbase] at o2 run
                 have hrun := nnew base' n cap olds z0 i3 o2 hg0 hr2 (growslice_fits hg0 hr1)
                 intro K Q hK
                 unfold Oper.wp
                 rw [run _ _ hrun]
                 have hw : Sim base M W nt f g c a w.drew D μ := h.drew
                 obtain ⟨C2, hC2⟩ : ∃ C2, C2 = olds.toArray ++ news.toArray ++ Builtin.zeroCells z0.cells (grownCap w (n + m) cap e' - (n + m)) := ⟨_, rfl⟩
                 have hge := grownCap_ge w (n + m) cap e'
                 have hCs : C2.size = grownCap w (n + m) cap e' * ei'.size := by
                   rw [hC2]
                   simp only [Array.size_append, size_zeroCells, List.size_toArray, n1, o1, hzs]
                   rw [<- Nat.add_mul, <- Nat.add_mul]
                   congr 1
                   omega
                 rw [<- hC2]
                 have hle2 : (n + m) * ei'.size <= C2.size := by rw [hCs]; exact Nat.mul_le_mul_right _ hge
                 have hone : ones C2 := by
                   have q1 := zc6 hsp o1 (fun i j hi hj => by obtain ⟨v, v1, v2, _⟩ := o4 i j hi hj; exact ⟨v, v1, v2⟩)
                   have q2 := zc6 hsp n1 (fun i j hi hj => by obtain ⟨v, v1, v2, _⟩ := n4 i j hi hj; exact ⟨v, v1, v2⟩)
                   have q3 : ∀ v ∈ (Builtin.zeroCells z0.cells (grownCap w (n + m) cap e' - (n + m))).toList, one v := zc6 hsp (by simp [size_zeroCells, hzs]) (fun i j hi hj => ⟨_, zdw hzs hi hj, i4 _ _ (getD_some (by omega))⟩)
                   exact ze5 hC2 q1 q2 q3
                 have hnew' := hw.new (hd _ hdst) hnew (.row e' ei'.size (n + m) (fun i j => L3 std zrc (L2 std zb3 i n) (get (L2 std Nat.add off i) j) (src (L2 std Nat.sub i n) j))) C2 e' (n + m) (by simp) (zfv hw hle2 hone (fun i j hi hj => by
                   by_cases hin : i < n
                   · obtain ⟨v, v1, v2, v3⟩ := o4 i j hin hj
                     have hlt := (List.getElem?_eq_some_iff.1 v1).1
                     refine ⟨v, ?_, v2, ?_⟩
                     · rw [hC2, Array.append_assoc, Array.getElem?_append_left (by simpa using hlt)]
                       simpa using v1
                     · have : L2 std zb3 i n = true := by show zb3 i n = true; rw [zc7]; exact hin
                       rw [this]; exact v3
                   · obtain ⟨v, v1, v2, v3⟩ := n4 (i - n) j (by omega) hj
                     have hlt := (List.getElem?_eq_some_iff.1 v1).1
                     have hi1 : i * ei'.size = n * ei'.size + (i - n) * ei'.size := by rw [<- Nat.add_mul]; congr 1; omega
                     refine ⟨v, ?_, v2, ?_⟩
                     · rw [hC2, Array.append_assoc, Array.getElem?_append_right (by simp [o1]; omega), Array.getElem?_append_left (by simp [o1]; omega)]
                       simp only [List.size_toArray, o1, List.getElem?_toArray]
                       rw [show i * ei'.size + j - n * ei'.size = (i - n) * ei'.size + j by omega]
                       exact v1
                     · have : L2 std zb3 i n = false := by
                         show zb3 i n = false
                         cases hx : zb3 i n with
                         | false => rfl
                         | true => exact absurd (zan hx) hin
                       rw [this]; exact v3))
                 refine hK _ _ ⟨_, _, hnew'.put hd ?_⟩
                 have := R.sl (h := (w.drew.alloc (.cells C2 e')).heap) (D := D) (μ := fun id => if id = d then some (some (w.drew.heap.size, C2.size, n + m)) else μ id) d ei'.size 0 (n + m) w.heap.size C2.size (n + m) (grownCap w (n + m) cap e') (by simp) hge (by rw [hCs]; simp) (by omega)
                 simpa using this
             · trivial
           · trivial
         · trivial
       · trivial
     · trivial
   · trivial
 · trivial
theorem zpe (hT : zbd P T) {x y : Operand} {ts : Array TypeId} {t t' : Nat} (hts : ts.toList = [t, t']) (e : o.op = .call { callee := .builtin .append, args := #[x, y], argTypes := ts }) {vals : List AV}
   (hv : Ops w.heap D μ a [x, y] vals) {ob : Nat -> Option Ob} (hob : ∀ id z, ob id = some z -> g id = some z) :
   zbw P base M W nt f g c o a w (zi8 T std o.dst t t' ob (zcd g o.op o.dst) vals) := by
 obtain rfl : ts = #[t, t'] := by apply Array.ext'; simpa using hts
 unfold zi8
 split
 · rename_i sz n get xv
   obtain ⟨hs, hv, _⟩ := hv
   split
   · rename_i d hc
     obtain ⟨hn, hdst⟩ := zbg hc
     have hnew : g d = none := by
       simp only [zcd, e, zbz, hdst] at hn
       cases hg : g d with
       | none => rfl
       | some _ => rw [hg] at hn; cases hn
     split
     · rename_i sz0 ag ze e' esz eb eqf p1 p2 p3 hi
       obtain ⟨ok1, ok2⟩ := (hT t _ hi).k
       obtain ⟨ei', hei', hes⟩ := Option.map_eq_some_iff.1 ok2
       simp only [Prod.mk.injEq] at hes
       obtain ⟨hes1, hes2⟩ := hes
       subst hes1; subst hes2
       split
       · rename_i m src hsrc
         have c1 : zcj T t' = true := by cases hx : zcj T t' <;> simp_all
         have c2 : zbh 1 ei'.size = true := by cases hx : zbh 1 ei'.size <;> simp_all
         have c3 : (T.find e').isSome = true := by cases hx : (T.find e').isSome <;> simp_all
         rw [c1, c2, c3] at hsrc
         simp only [cond_true] at hsrc
         have hni := zfx hT c1
         have hsp := zb2 c2
         obtain ⟨eti, heti⟩ := Option.isSome_iff_exists.1 c3
         obtain ⟨ii, z0, i1, i2, i3, i4, i5, i6⟩ := (hT e' eti heti).info
         rw [hei'] at i1
         cases i1
         have hzs : z0.cells.size = ei'.size := by rw [i5, <- i2]
         split
         · rename_i hsz
           obtain rfl := za1 hsz
           intro hb
           have hb : (zb3 0 m && zbx ei'.bytes n m) = true := hb
           simp only [zbx, Bool.and_eq_true, decide_eq_true_eq, zc7] at hb
           obtain ⟨hm, hr1, hr2⟩ := hb
           obtain ⟨news, n1, n2, n3, n4⟩ := zf7 (P := P) h hob hsrc hv
           obtain ⟨olds, o1, o2, _, o4⟩ := zf7 (P := P) (esz := ei'.size) (m := n) (x := .lst ei'.size n get) (src := get) (ob := g) h (fun _ _ h => h) (by simp only [zch, za3]) hs.lessx
           have run : ∀ u w', (Builtin.append_ #[t, t'] o.type #[a.eval x, a.eval y]).run P w = .ok u w' -> (execOp a.eval o).run P w = .ok (.value u) w' := by
             intro u w' hu
             unfold execOp
             rw [e]
             simp [resolve, invoke, builtin, hu]
           obtain ⟨base', hbase⟩ : ∃ base', a.eval x = .slice base' n n := by
             generalize a.eval x = u at hs
             cases hs with
             | lstx _ _ _ ad r => exact ⟨_, rfl⟩
           rw [hbase] at o2 run
           have hg0 : n < n + m := by omega
           have hrun := zbc (P := P) w t t' o.type e' ei' z0 ok1 hni hei' i3 base' n n (a.eval y) m olds news o2 n2 n3 hg0 hr2 (growslice_fits hg0 hr1)
           intro K Q hK
           unfold Oper.wp
           rw [run _ _ hrun]
           have hw : Sim base M W nt f g c a w.drew D μ := h.drew
           obtain ⟨C2, hC2⟩ : ∃ C2, C2 = olds.toArray ++ news.toArray ++ Builtin.zeroCells z0.cells (grownCap w (n + m) n e' - (n + m)) := ⟨_, rfl⟩
           have hge := grownCap_ge w (n + m) n e'
           have hCs : C2.size = grownCap w (n + m) n e' * ei'.size := by
             rw [hC2]
             simp only [Array.size_append, size_zeroCells, List.size_toArray, n1, o1, hzs]
             rw [<- Nat.add_mul, <- Nat.add_mul]
             congr 1
             omega
           rw [<- hC2]
           have hle2 : (n + m) * ei'.size <= C2.size := by rw [hCs]; exact Nat.mul_le_mul_right _ hge
           have hone : ones C2 := by
             have q1 := zc6 hsp o1 (fun i j hi hj => by obtain ⟨v, v1, v2, _⟩ := o4 i j hi hj; exact ⟨v, v1, v2⟩)
             have q2 := zc6 hsp n1 (fun i j hi hj => by obtain ⟨v, v1, v2, _⟩ := n4 i j hi hj; exact ⟨v, v1, v2⟩)
             have q3 : ∀ v ∈ (Builtin.zeroCells z0.cells (grownCap w (n + m) n e' - (n + m))).toList, one v := zc6 hsp (by simp [size_zeroCells, hzs]) (fun i j hi hj => ⟨_, zdw hzs hi hj, i4 _ _ (getD_some (by omega))⟩)
             exact ze5 hC2 q1 q2 q3
           have hnew' := hw.new (hd _ hdst) hnew (.row e' ei'.size (n + m) (fun i j => zci std (L2 std zb3 i n) (get i j) (src (L2 std Nat.sub i n) j))) C2 e' (n + m) (by simp) (zfv hw hle2 hone (zoe (C := fun k => C2[k]?) (fun i j hi hj => by
               obtain ⟨v, v1, v2, v3⟩ := o4 i j hi hj
               have hlt := (List.getElem?_eq_some_iff.1 v1).1
               refine ⟨v, ?_, v2, v3⟩
               rw [hC2, Array.append_assoc, Array.getElem?_append_left (by simpa using hlt)]
               simpa using v1) (fun i j hi hj => by
               obtain ⟨v, v1, v2, v3⟩ := n4 i j hi hj
               have hlt := (List.getElem?_eq_some_iff.1 v1).1
               refine ⟨v, ?_, v2, v3⟩
               rw [hC2, Array.append_assoc, Array.getElem?_append_right (by simp [o1]), Array.getElem?_append_left (by simp [o1]; omega)]
               simp [o1, v1])))
           refine hK _ _ ⟨_, _, hnew'.put hd ?_⟩
           show R _ _ _ (.sl d ei'.size 0 (n + m)) _
           have := R.sl (h := (w.drew.alloc (.cells C2 e')).heap) (D := D) (μ := fun id => if id = d then some (some (w.drew.heap.size, C2.size, n + m)) else μ id) d ei'.size 0 (n + m) w.heap.size C2.size (n + m) (grownCap w (n + m) n e') (by simp) hge (by rw [hCs]; simp) (by omega)
           simpa using this
         · trivial
       · trivial
     · trivial
   · trivial
 · trivial
theorem zpf (hT : zbd P T) {x y : Operand} {ts : Array TypeId} {t t' : Nat} (hts : ts.toList = [t, t']) (e : o.op = .call { callee := .builtin .append, args := #[x, y], argTypes := ts }) {vals : List AV}
   (hv : Ops w.heap D μ a [x, y] vals) {ob : Nat -> Option Ob} (hob : ∀ id z, ob id = some z -> g id = some z) (p : Nat) :
   zbw P base M W nt f g c o a w (zi9 T std p t t' ob vals) := by
 obtain rfl : ts = #[t, t'] := by apply Array.ext'; simpa using hts
 unfold zi9
 split
 · rename_i sz n get xv
   obtain ⟨hs, hv, _⟩ := hv
   split
   · rename_i sz0 ag ze e' esz eb eqf p1 p2 p3 hi
     obtain ⟨ok1, ok2⟩ := (hT t _ hi).k
     obtain ⟨ei', hei', hes⟩ := Option.map_eq_some_iff.1 ok2
     simp only [Prod.mk.injEq] at hes
     obtain ⟨hes1, hes2⟩ := hes
     subst hes1; subst hes2
     split
     · rename_i m src hsrc
       have c1 : zcj T t' = true := by cases hx : zcj T t' <;> simp_all
       have c2 : zbh 1 ei'.size = true := by cases hx : zbh 1 ei'.size <;> simp_all
       have c3 : (T.find e').isSome = true := by cases hx : (T.find e').isSome <;> simp_all
       rw [c1, c2, c3] at hsrc
       simp only [cond_true] at hsrc
       have hni := zfx hT c1
       have hsp := zb2 c2
       obtain ⟨eti, heti⟩ := Option.isSome_iff_exists.1 c3
       obtain ⟨ii, z0, i1, i2, i3, i4, i5, i6⟩ := (hT e' eti heti).info
       rw [hei'] at i1
       cases i1
       have hzs : z0.cells.size = ei'.size := by rw [i5, <- i2]
       split
       · rename_i ty szt n0 len get0 hsz hg
         have hg := hob _ _ hg
         obtain rfl := za1 hsz
         split
         · rename_i hty hszt
           obtain rfl := za1 hty
           obtain rfl := za1 hszt
           intro hb
           have hb : (za5 n 0 && zbx ei'.bytes 0 m) = true := hb
           simp only [zbx, Bool.and_eq_true, decide_eq_true_eq] at hb
           obtain ⟨hn0, hr1, hr2⟩ := hb
           obtain rfl := za1 hn0
           obtain ⟨news, n1, n2, n3, n4⟩ := zf7 (P := P) h hob hsrc hv
           have run : ∀ u w', (Builtin.append_ #[t, t'] o.type #[a.eval x, a.eval y]).run P w = .ok u w' -> (execOp a.eval o).run P w = .ok (.value u) w' := by
             intro u w' hu
             unfold execOp
             rw [e]
             simp [resolve, invoke, builtin, hu]
           obtain ⟨ad, hbase⟩ : ∃ ad, a.eval x = .slice ad 0 0 := by
             generalize a.eval x = u at hs
             cases hs with
             | lstx _ _ _ ad r => exact ⟨_, rfl⟩
           rw [hbase] at run
           have hmem := h.tbs.mem hg (k := n0)
           rw [if_neg (Nat.lt_irrefl n0)] at hmem
           obtain ⟨q1, q2, q3⟩ := zjf (n' := n0 + 1) (len' := fun k => yf2 (za5 k n0) m (len k)) (get' := fun k i' j => zci std (L2 std za5 k n0) (src i' j) (get0 k i' j)) h.tbs hg (k := n0)
             (fun j hj => by omega) (fun j hj => by show cond (za5 j n0) m (len j) = len j; rw [zac hj]; rfl) (fun j hj i' q hp D2 μ2 v2 r => zz6 _ r _ _ hj)
           rw [if_pos (Nat.lt_succ_self n0)] at q1
           have hlen : yf2 (za5 n0 n0) m (len n0) = m := by rw [za3]; rfl
           have hpin := zky (h.tbs p _ hg).1 n0
           intro K Q hK
           unfold Oper.wp
           have hfc : ∀ w', (Builtin.firstCells ei'.size 0 (.slice ad 0 0)).run P w' = .ok #[] w' := by
             intro w'
             cases ad <;> simp [Builtin.firstCells, loadCells, loadCellsFrom]
           by_cases hm0 : m = 0
           · subst hm0
             have hnil : news = [] := by apply List.eq_nil_of_length_eq_zero; rw [n1]; simp
             subst hnil
             have hr := zcc (P := P) w t t' o.type ty ei' ok1 hni hei' ad 0 0 (a.eval y) 0 [] n2 n3 (by omega) (w' := w) (fun ad _ => rfl) (fun _ => rfl)
             rw [run _ _ hr]
             rw [hlen] at q1
             exact hK _ _ ⟨_, _, (h.newNilG hpin hmem q1 q2 q3).put hd (.aslv _ _ _ _ (by simp))⟩
           · have hg0 : 0 < 0 + m := by omega
             have hrun := zbc (P := P) w t t' o.type ty ei' z0 ok1 hni hei' i3 ad 0 0 (a.eval y) m [] news (fun w' _ => hfc w') n2 n3 hg0 hr2 (growslice_fits hg0 hr1)
             rw [run _ _ hrun]
             have hw : Sim base M W nt f g c a w.drew D μ := h.drew
             obtain ⟨C2, hC2⟩ : ∃ C2, C2 = ([] : List Value).toArray ++ news.toArray ++ Builtin.zeroCells z0.cells (grownCap w (0 + m) 0 ty - (0 + m)) := ⟨_, rfl⟩
             have hge := grownCap_ge w (0 + m) 0 ty
             have hCs : C2.size = grownCap w (0 + m) 0 ty * ei'.size := by
               clear q1 q2 q3 hlen hpin hmem
               rw [hC2]
               simp only [Array.size_append, size_zeroCells, List.size_toArray, List.length_nil, n1, hzs]
               rw [Nat.zero_add, <- Nat.add_mul]
               congr 1
               omega
             rw [<- hC2]
             have hle2 : m * ei'.size <= C2.size := by rw [hCs]; exact Nat.mul_le_mul_right _ (by omega)
             have hone : ones C2 := by
               have q2 := zc6 hsp n1 (fun i j hi hj => by obtain ⟨v, v1, v2, _⟩ := n4 i j hi hj; exact ⟨v, v1, v2⟩)
               have q3 : ∀ v ∈ (Builtin.zeroCells z0.cells (grownCap w (0 + m) 0 ty - (0 + m))).toList, one v := zc6 hsp (by simp [size_zeroCells, hzs]) (fun i j hi hj => ⟨_, zdw hzs hi hj, i4 _ _ (getD_some (by omega))⟩)
               exact ze5 hC2 (fun v hv => by simp at hv) q2 q3
             have hrow := zfv (t := ty) hw hle2 hone (sz := ei'.size) (n := m) (get := src) (fun i j hi hj => by
               obtain ⟨v, v1, v2, v3⟩ := n4 i j hi hj
               have hlt := (List.getElem?_eq_some_iff.1 v1).1
               refine ⟨v, ?_, v2, v3⟩
               rw [hC2, Array.append_assoc, Array.getElem?_append_right (by simp), Array.getElem?_append_left (by simpa using hlt)]
               simpa using v1)
             have h1 := hw.newG hpin hmem (.row ty ei'.size (yf2 (za5 n0 n0) m (len n0)) (fun i' j => zci std (L2 std za5 n0 n0) (src i' j) (get0 n0 i' j))) (.cells C2 ty) C2.size m (by simp) q1 q2 q3 (by
               rw [hlen]
               obtain ⟨_, cc, t', fr, k1, k2, k3, k4, k5⟩ := hrow
               refine ⟨rfl, cc, t', fr, k1, k2, k3, k4, fun i' j hi' hj => ?_⟩
               obtain ⟨v, v1, v2, v3⟩ := k5 i' j hi' hj
               exact ⟨v, v1, v2, by rw [show L2 std za5 n0 n0 = true from za3 n0]; exact zbq v3 _⟩)
             have hr := R.asl (h := (w.drew.alloc (.cells C2 ty)).heap) (D := D) (μ := fun id => if id = mid p n0 then some (some (w.drew.heap.size, C2.size, m)) else μ id) p n0 ei'.size 0 m w.heap.size C2.size m (grownCap w (0 + m) 0 ty) (by simp) (by omega) (by rw [hCs]; simp) (by omega)
             rw [Nat.zero_mul] at hr
             rw [Nat.zero_add] at hr |-
             exact hK _ _ ⟨_, _, h1.put hd hr⟩
         · trivial
       · trivial
     · trivial
   · trivial
 · trivial
theorem zwf (hT : zbd P T) {t : Nat} {r : List Nat} {x : Operand} {ts : Array TypeId} (hts : ts.toList = t :: r) (e : o.op = .call { callee := .builtin .clear, args := #[x], argTypes := ts }) {vals : List AV} (hv : Ops w.heap D μ a [x] vals)
   {ob : Nat -> Option Ob} (hob : ∀ id z, ob id = some z -> g id = some z) {ice : Nat -> Bool} (hice : ∀ id, ice id = false -> c id = false) :
   zbw P base M W nt f g c o a w (yds T std t ob ice vals) := by
 have h0 : ts[0]? = some t := by rw [<- Array.getElem?_toList, hts]; rfl
 match vals, hv with
 | [v], ⟨hv, _⟩ =>
   unfold yds
   simp only
   split
   · rename_i id sz off n sz0 ag ze e' esz eb eqf p1 p2 p3 hsl hi
     have hv : R w.heap D μ (.sl id sz off n) (a.eval x) := by
       unfold slOf at hsl
       split at hsl
       · cases hsl; exact hv
       · cases hsl; exact hv.less
       · cases hsl
     obtain ⟨ok1, ok2⟩ := (hT t _ hi).k
     obtain ⟨ei', hei', hes⟩ := Option.map_eq_some_iff.1 ok2
     simp only [Prod.mk.injEq] at hes
     obtain ⟨hes1, hes2⟩ := hes
     subst hes1; subst hes2
     split
     · rename_i ei ty sz' k get hei hsz c2 hic hg
       obtain rfl := za1 hsz
       have hg := hob _ _ hg
       have hic := hice _ hic
       split
       · rename_i hsz' hfr
         obtain rfl := za1 hsz'
         obtain ⟨ii, z0, i1, i2, i3, i4, i5, i6⟩ := (hT e' ei hei).info
         rw [hei'] at i1
         cases i1
         have hzs : z0.cells.size = ei'.size := by rw [i5, <- i2]
         have hzl : ei.zero.length = ei'.size := by rw [(i6 w.heap D μ).1, hzs]
         have run : ∀ u w', (Builtin.clear_ ts o.type #[a.eval x]).run P w = .ok u w' -> (execOp a.eval o).run P w = .ok (.value u) w' := by
           intro u w' hu
           unfold execOp
           rw [e]
           simp [resolve, invoke, builtin, hu]
         have none0 : ∀ ad cap, n = 0 -> a.eval x = .slice ad 0 cap -> Adv P base M W nt f g c o a w (.tup []) [(id, .row ty ei'.size k (fun i j => L3 std zrc (L3 std zdr off n i) (zbl .dead ei.zero j) (get i j)))] [] := by
           intro ad cap hn hu K Q hK
           unfold Oper.wp
           rw [run (.tuple #[]) w (by rw [hu]; cases ad <;> simp [Builtin.clear_, h0, run_underlying ok1])]
           have e1 : (fun i j => L3 std zrc (L3 std zdr off n i) (zbl .dead ei.zero j) (get i j)) = get := by
             funext i j
             have : L3 std zdr off n i = false := by
               subst hn
               show (zbh off i && zb3 i (off + 0)) = false
               cases hq : (zbh off i && zb3 i (off + 0)) with
               | false => rfl
               | true =>
                 rw [Bool.and_eq_true, zc7, zcr] at hq
                 omega
             rw [this]; rfl
           rw [e1] at hK
           have e2 : zb7 g [(id, .row ty ei'.size k get)] = g := by
             funext q
             by_cases hq : q = id
             · subst hq; simp [zb7, za2, za3, hg]
             · simp [zb7, za2, zac (fun x => hq x.symm : ¬ id = q)]
           rw [e2] at hK
           exact hK _ _ ⟨_, _, h.put hd (.tup [] #[] rfl (fun i x v hx => by simp at hx))⟩
         generalize hu : a.eval x = u at hv
         cases hv with
         | slv _ _ ad => exact none0 _ _ rfl hu
         | sl0 => exact none0 _ _ rfl hu
         | sl _ _ _ _ b z mm cap hμ hn hz ho =>
           by_cases hn0 : n = 0
           · subst hn0; exact none0 _ _ rfl hu
           have hm := (h.obs id _ _ hg hμ).1
           subst hm
           obtain ⟨w', hst, hsim⟩ := h.seg (P := P) hμ hg hic (zb2 c2) (off := off) (m := n) (src := fun _ j => zbl .dead ei.zero j) (news := (Builtin.zeroCells z0.cells n).toList) ho (by simp [size_zeroCells, hzs]) (fun i j hi hj => by
             refine ⟨_, zdw hzs hi hj, i4 _ _ (getD_some (by omega)), ?_⟩
             exact zcv ((i6 w.heap D μ).2 j _ _ (zak .dead ei.zero j (by omega)) (getD_some (by omega))) (zc4 hfr _ _ (zak _ _ _ (by omega))))
           intro K Q hK
           unfold Oper.wp
           rw [run (.tuple #[]) w' (by
             rw [hu]
             cases n with
             | zero => exact absurd rfl hn0
             | succ n => simp [Builtin.clear_, h0, run_underlying ok1, zeroValue, typeInfo, program, Sem.run, hei', i3, hst])]
           exact hK _ _ ⟨_, _, hsim.put hd (.tup [] #[] rfl (fun i x v hx => by simp at hx))⟩
       · trivial
     · trivial
   · trivial
end
end Sy
end Go.Proofs.Ytogomcfgfnlclaa
namespace Go.Proofs.Ytogomcfgfnlclaa
namespace Sy
open Go Go.RowKit
set_option linter.unusedSimpArgs false
set_option linter.unusedVariables false
theorem yc1 : ∀ {x y : List UInt8}, ynf x y = true -> x = y
 | [], [], _ => rfl
 | [], _ :: _, e => by cases e
 | _ :: _, [], e => by cases e
 | a :: x, b :: y, e => by
   unfold ynf at e
   split at e
   · rename_i h
     rw [UInt8.toNat_inj.1 (za1 h), yc1 e]
   · cases e
theorem zq7 : ∀ x : List UInt8, ynf x x = true
 | [] => rfl
 | a :: x => by unfold ynf; rw [za3]; exact zq7 x
theorem zku {a b : Ky} (e : kyb a b = true) : a = b := by
 unfold kyb at e
 split at e
 · rw [of_decide_eq_true e]
 · rw [yc1 e]
 · cases e
theorem yc2 {a b : Ky} (h : ¬ a = b) : kyb a b = false := by
 cases e : kyb a b with
 | true => exact absurd (zku e) h
 | false => rfl
theorem ygr {kk : KK} {v : Value} {k : Ky} (h : zn2 kk v k) (hp : zhn kk = true) : kyb k k = true := by
 cases kk with
 | i ik => obtain ⟨n, rfl, rfl⟩ := h; simp [kyb]
 | s => obtain ⟨n, rfl, rfl⟩ := h; exact zq7 _
 | a ks => cases hp
 | no => cases hp
theorem zq8 {q : Ky} (hq : kyb q q = true) (v : AV) (k' : Ky) : ∀ l, zbe (zus l q v) k' = if k' = q then some v else zbe l k'
 | [] => by
   simp only [zus, zbe]
   by_cases h : k' = q
   · subst h; rw [hq, if_pos rfl]
   · rw [yc2 (fun e => h e.symm), if_neg h]
 | (k, x) :: r => by
   unfold zus
   split
   · rename_i h
     obtain rfl := zku h
     simp only [zbe]
     by_cases h : k' = k
     · subst h; rw [hq, if_pos rfl]
     · rw [yc2 (fun e => h e.symm), if_neg h]
   · rename_i h
     simp only [zbe]
     rw [zq8 hq v k' r]
     by_cases h' : k' = q
     · subst h'; rw [h, if_pos rfl]
     · rw [if_neg h', if_neg h']
theorem zq9 {q : Ky} {x : AV} : ∀ {l}, zbe l q = some x -> q ∈ l.map Prod.fst
 | [], e => by cases e
 | (k, y) :: r, e => by
   unfold zbe at e
   split at e
   · rename_i h; rw [zku h]; simp
   · simp [zq9 e]
theorem zq0 {q : Ky} (hq : kyb q q = true) : ∀ {l}, q ∈ l.map Prod.fst -> (zbe l q).isSome = true
 | [], e => by simp at e
 | (k, y) :: r, e => by
   unfold zbe
   split
   · rfl
   · rename_i h
     simp only [List.map_cons, List.mem_cons] at e
     rcases e with rfl | e
     · rw [hq] at h; cases h
     · exact zq0 hq e
theorem zqa {q : Ky} (k' : Ky) : ∀ l : List (Ky × AV), (l.map Prod.fst).Nodup -> zbe (zsc l q) k' = if k' = q then none else zbe l k'
 | [], _ => by simp [zsc, zbe]
 | (k, x) :: r, nd => by
   simp only [List.map_cons, List.nodup_cons] at nd
   unfold zsc
   split
   · rename_i h
     obtain rfl := zku h
     by_cases h' : k' = k
     · subst h'
       rw [if_pos rfl]
       cases e : zbe r k' with
       | none => rfl
       | some y => exact absurd (zq9 e) nd.1
     · rw [if_neg h']; simp only [zbe]; rw [yc2 (fun e => h' e.symm)]
   · rename_i h
     simp only [zbe]
     rw [zqa k' r nd.2]
     by_cases h' : k' = q
     · subst h'; rw [h, if_pos rfl]
     · rw [if_neg h', if_neg h']
theorem zkv {q : Ky} (v : AV) : ∀ l, (zus l q v).map Prod.fst = if (zbe l q).isSome then l.map Prod.fst else l.map Prod.fst ++ [q]
 | [] => by simp [zus, zbe]
 | (k, x) :: r => by
   unfold zus zbe
   split
   · rename_i h; obtain rfl := zku h; simp
   · rename_i h
     simp only [List.map_cons, zkv v r]
     cases (zbe r q).isSome <;> simp
theorem zur {q : Ky} (v : AV) (l : List (Ky × AV)) : (zus l q v).length = if (zbe l q).isSome then l.length else l.length + 1 := by
 have := congrArg List.length (zkv (q := q) v l)
 rw [List.length_map] at this
 rw [this]
 cases (zbe l q).isSome <;> simp
theorem zx7 {q : Ky} (hq : kyb q q = true) (v : AV) {l : List (Ky × AV)} (nd : (l.map Prod.fst).Nodup) : ((zus l q v).map Prod.fst).Nodup := by
 rw [zkv]
 cases e : (zbe l q).isSome with
 | true => simpa using nd
 | false =>
   simp only [Bool.false_eq_true, if_false]
   rw [List.nodup_append]
   refine ⟨nd, by simp, fun a ha b hb => ?_⟩
   simp only [List.mem_singleton] at hb
   subst hb
   rintro rfl
   rw [zq0 hq ha] at e
   cases e
theorem zuw {q : Ky} : ∀ l : List (Ky × AV), (zsc l q).Sublist l
 | [] => by simp [zsc]
 | (k, x) :: r => by
   unfold zsc
   split
   · exact List.sublist_cons_self _ _
   · exact (zuw r).cons_cons _
theorem zoc {q : Ky} : ∀ l : List (Ky × AV), (zsc l q).length = if (zbe l q).isSome then l.length - 1 else l.length
 | [] => by simp [zsc, zbe]
 | (k, x) :: r => by
   unfold zsc zbe
   split
   · simp
   · simp only [List.length_cons, zoc r]
     cases e : zbe r q with
     | none => simp
     | some y =>
       have : r ≠ [] := by rintro rfl; cases e
       have := List.length_pos_iff.2 this
       simp only [Option.isSome_some, if_true]
       omega
def yql (h : Array Obj) (D : Nat -> Prop) (μ : Mu) (kk : KK) (l : List (Ky × AV)) (b : Nat) (es : Array MapEntry) (clock : Nat) (kf : Nat -> Ky) : Prop :=
 h[b]? = some (.map es clock) /\ es.size = l.length /\ zd0 kk (fun k => (zbe l k).isSome) es clock kf /\ (l.map Prod.fst).Nodup /\ ∀ (i : Nat) e, es[i]? = some e -> ∃ x, zbe l (kf i) = some x /\ R h D μ x e.val
theorem yjb {h : Array Obj} {D : Nat -> Prop} {μ : Mu} (ob : Nat -> Option Ob) {x : AV} {v : Value} (r : R h D μ x v) : R h D μ (zyj ob x) v := by
 unfold zyj
 split
 · split
   · exact .dead _
   · exact r
 · exact r
theorem zyi {h : Array Obj} {D : Nat -> Prop} {μ : Mu} (ob : Nat -> Option Ob) : ∀ (cs : List AV) (us : List Value), cs.length = us.length -> (∀ (i : Nat) x v, cs[i]? = some x -> us[i]? = some v -> R h D μ x v) ->
   (zcn (zyj ob) cs).length = us.length /\ ∀ (i : Nat) x v, (zcn (zyj ob) cs)[i]? = some x -> us[i]? = some v -> R h D μ x v
 | [], [], _, _ => ⟨rfl, fun i x v hx => by simp [zcn] at hx⟩
 | [], _ :: _, e, _ => by simp at e
 | _ :: _, [], e, _ => by simp at e
 | x :: cs, v :: us, e, hr => by
   obtain ⟨h1, h2⟩ := zyi ob cs us (by simpa using e) (fun i x v hx hv => hr (i + 1) x v (by simpa using hx) (by simpa using hv))
   refine ⟨by simp [zcn, h1], fun i y u hy hu => ?_⟩
   cases i with
   | zero => simp [zcn] at hy hu; subst hy hu; exact yjb ob (hr 0 x v rfl rfl)
   | succ i => simp [zcn] at hy hu; exact h2 i y u hy hu
theorem yja {h : Array Obj} {D : Nat -> Prop} {μ : Mu} (ob : Nat -> Option Ob) {x : AV} {v : Value} (r : R h D μ x v) : R h D μ (yen ob x) v := by
 unfold yen
 split
 · obtain ⟨us, rfl, o1, r1⟩ := r.inv_agg
   obtain ⟨h1, h2⟩ := zyi (h := h) (D := D) (μ := μ) ob _ us.toList (by rw [r1.1]; simp) (fun i x v hx hv => r1.2 i x v hx (by simpa using hv))
   exact .agg _ _ (by simpa using h1) o1 (fun i x v hx hv => h2 i x v hx (by simpa using hv))
 · exact r
theorem ztx {h : Array Obj} {D : Nat -> Prop} {μ : Mu} {a : Act} {ob : Nat -> Option Ob} : ∀ {l : List Operand} {vals : List AV}, Ops h D μ a l vals -> Ops h D μ a l (zcn (yen ob) vals)
 | [], [], _ => trivial
 | [], _ :: _, hv => hv.elim
 | _ :: _, [], hv => hv.elim
 | _ :: _, _ :: _, hv => ⟨yja ob hv.1, ztx hv.2⟩
theorem zuy {P : Program} {T : TT} (hT : zbd P T) {kt : Nat} (e : zxa T kt = true) : ∃ e, P.underlying kt = some (.pointer e) := by
 unfold zxa at e
 split at e
 · rename_i hf; exact (hT _ _ hf).k
 · cases e
theorem ybl {ob : Nat -> Option Ob} {vals : List AV} {id : Nat} {q : Bool} (e : ync ob vals = some (id, q)) : ∃ r, vals = .mp id :: r /\ ob id = some (.mapq q) := by
 unfold ync at e
 split at e
 · rename_i id' r
   split at e
   · rename_i h; cases e; exact ⟨r, rfl, h⟩
   · cases e
 · cases e
theorem ztq {P : Program} {kt : Nat} {e : TypeId} (hu : P.underlying kt = some (.pointer e)) (v : Value) (w : World) :
   (∀ b, (Instr.checkKey b 10000 kt v).run P w = .ok () w) /\ (Instr.findKey kt v []).run P w = .ok none w := by
 refine ⟨fun b => ?_, MapKept.run_findKey hu rfl⟩
 unfold Instr.checkKey
 simp only [Sem.run_bind, run_underlying hu, Result.andThen]
 rfl
theorem znz {ob : Nat -> Option Ob} {vals : List AV} {id : Nat} {kk : KK} {l : List (Ky × AV)} (e : yeh ob vals = some (id, kk, l)) : ∃ r, vals = .mp id :: r /\ ob id = some (.mapl kk l) := by
 unfold yeh at e
 split at e
 · rename_i id' r
   split at e
   · rename_i h; cases e; exact ⟨r, rfl, h⟩
   · cases e
 · cases e
section
variable {P : Program} {T : TT} {base : Nat} {M : Two} {W : World} {nt : Nat} {f : Nat -> Option AV} {g : Nat -> Option Ob} {c : Nat -> Bool} {a : Act} {w : World} {D : Nat -> Prop} {μ : Mu} {o : Oper}
variable (h : Sim base M W nt f g c a w D μ) (hd : ∀ d, o.dst = some d -> d < nt)
include h hd
theorem zw5 (hT : zbd P T) {t : TypeId} (e : o.op = .makeMap t none) : zbw P base M W nt f g c o a w (ydi T o.dst t (zcd g o.op o.dst)) := by
 unfold ydi
 split
 · rename_i d hc
   obtain ⟨hn, hdst⟩ := zbg hc
   have hnew : g d = none := by
     simp only [zcd, e, zbz, hdst] at hn
     cases hg : g d with
     | none => rfl
     | some _ => rw [hg] at hn; cases hn
   split
   · rename_i sz ag ze kt et eqf p1 p2 p3 hi
     have run : (execOp a.eval o).run P w = .ok (.value (.map (some w.heap.size))) (w.alloc (.map #[] 0)) := by
       unfold execOp
       rw [e]
       simp [Instr.makeMap]
     intro K Q hK
     unfold Oper.wp
     rw [run]
     have h1 := h.newO (hd _ hdst) hnew (.mapl (zdp T kt) []) (.map #[] 0) 0 0 (by simp)
       ⟨#[], 0, fun _ => .i 0, heap_alloc_new _ _, rfl, ⟨fun i x hx => (by simp at hx), fun k hk => (by cases hk), MapKept.stamped_empty 0⟩, List.nodup_nil, fun i x hx => (by simp at hx)⟩
     exact hK _ _ ⟨_, _, h1.put hd (.mp _ _ 0 0 (by simp))⟩
   · trivial
 · trivial
theorem zw3 (hT : zbd P T) {t : TypeId} (e : o.op = .makeMap t none) : zbw P base M W nt f g c o a w (ydg T o.dst t (zcd g o.op o.dst)) := by
 unfold ydg
 split
 · rename_i d hc
   obtain ⟨hn, hdst⟩ := zbg hc
   have hnew : g d = none := by
     simp only [zcd, e, zbz, hdst] at hn
     cases hg : g d with
     | none => rfl
     | some _ => rw [hg] at hn; cases hn
   split
   · rename_i sz ag ze kt et eqf p1 p2 p3 hi
     have run : (execOp a.eval o).run P w = .ok (.value (.map (some w.heap.size))) (w.alloc (.map #[] 0)) := by
       unfold execOp
       rw [e]
       simp [Instr.makeMap]
     intro K Q hK
     unfold Oper.wp
     rw [run]
     have h1 := h.newO (hd _ hdst) hnew (.mapq true) (.map #[] 0) 0 0 (by simp) ⟨#[], 0, heap_alloc_new _ _, fun _ => rfl⟩
     exact hK _ _ ⟨_, _, h1.put hd (.mp _ _ 0 0 (by simp))⟩
   · trivial
 · trivial
omit hd in
theorem ybv {id : Nat} {q : Bool} (hg : g id = some (.mapq q)) {v : Value} (r : R w.heap D μ (.mp id) v) :
   ∃ b z m es clock, v = .map (some b) /\ μ id = some (some (b, z, m)) /\ w.heap[b]? = some (.map es clock) /\ (q = true -> es = #[]) := by
 cases r with
 | mp _ b z m hμ =>
   obtain ⟨es, clock, hh⟩ := h.obs id _ _ hg hμ
   exact ⟨b, z, m, es, clock, rfl, hμ, hh⟩
theorem zw7 (hT : zbd P T) {t : TypeId} {x y : Operand} {ok : Bool} (e : o.op = .lookup t x y ok) {vals : List AV} (hv : Ops w.heap D μ a [x, y] vals) {ob : Nat -> Option Ob} (hob : ∀ id z, ob id = some z -> g id = some z)
   {id : Nat} {q : Bool} (hm : ync ob vals = some (id, q)) : zbw P base M W nt f g c o a w (ydk T t ok q vals) := by
 obtain ⟨r, rfl, hg⟩ := ybl hm
 match r, hv with
 | [k], ⟨hv, hk, _⟩ =>
   obtain ⟨b, z0, m, es, clock, hu', hμ, hb, hes⟩ := ybv h (hob _ _ hg) hv
   unfold ydk
   simp only
   split
   · rename_i sz ag ze kt et eqf p1 p2 p3 hi
     have hu := (hT t _ hi).k
     simp only [kOk] at hu
     split
     · rename_i ei hei hptr
       obtain ⟨z, z1, z2⟩ := (hT et ei hei).zeroR
       have rz : R w.heap D μ (zfk ei) z := z2 _ _ _
       intro hq
       have hes := hes hq
       subst hes
       obtain ⟨e', hu2⟩ := zuy hT hptr
       obtain ⟨f1, g2⟩ := ztq hu2 (a.eval y) w
       have hrun : (Instr.lookup t (a.eval x) (a.eval y) ok).run P w = .ok (cond ok (.tuple #[z, .bool false]) z) w := by
         rw [hu']
         unfold Instr.lookup
         simp only [Sem.run_bind, run_underlying hu, Result.andThen_ok, MapKept.run_getObj_map hb, f1, g2, z1, Sem.run_pure, Array.toList]
         cases ok <;> rfl
       cases ok with
       | true =>
         refine za0 h hd (u := .tuple #[z, .bool false]) ?_ (.tup _ _ rfl (fun i x' v hx hv => ?_))
         · unfold execOp
           rw [e]
           simp [hrun]
         · match i with
           | 0 => simp at hx hv; subst hx; subst hv; exact rz
           | 1 => simp at hx hv; subst hx; subst hv; exact .bool _
           | i + 2 => simp at hx
       | false =>
         refine za0 h hd (u := z) ?_ rz
         unfold execOp
         rw [e]
         simp [hrun]
     · trivial
   · trivial
 | [], ⟨_, hv⟩ => exact hv.elim
theorem zzk (hT : zbd P T) {t : TypeId} {x y v : Operand} (e : o.op = .mapUpdate t x y v) {vals : List AV} (hv : Ops w.heap D μ a [x, y, v] vals) {ob : Nat -> Option Ob} (hob : ∀ id z, ob id = some z -> g id = some z) {ice : Nat -> Bool} (hice : ∀ id, ice id = false -> c id = false)
   {id : Nat} {q : Bool} (hm : ync ob vals = some (id, q)) : zbw P base M W nt f g c o a w (ymh T t ice id q vals) := by
 obtain ⟨r, rfl, hg⟩ := ybl hm
 have hg := hob _ _ hg
 match r, hv with
 | [k, val'], ⟨hm, hk, hx, _⟩ =>
   obtain ⟨b, z, m, es, clock, hum, hμ, hb, hes⟩ := ybv h hg hm
   unfold ymh
   simp only
   split
   · rename_i sz ag ze kt et eqf p1 p2 p3 hi
     have hu := (hT t _ hi).k
     simp only [kOk] at hu
     split
     · rename_i hic hptr
       have hic := hice _ hic
       intro hq
       have hes := hes hq
       subst hes
       obtain ⟨e', hu2⟩ := zuy hT hptr
       obtain ⟨f1, g2⟩ := ztq hu2 (a.eval y) w
       have hblt : b < w.heap.size := (Array.getElem?_eq_some_iff.1 hb).1
       have run : (execOp a.eval o).run P w = .ok .skip { w with heap := w.heap.setIfInBounds b (.map #[{ key := a.eval y, val := a.eval v, born := clock }] (clock + 1)) } := by
         unfold execOp
         rw [e]
         simp [hum, Instr.mapUpdate, run_underlying hu, MapKept.run_getObj_map hb, f1, g2, MapKept.run_setObj_map _ hb, Result.andThen]
       intro K Q hK
       unfold Oper.wp
       rw [run]
       have h1 := h.turn (ob' := .mapq false) (w' := { w with heap := w.heap.setIfInBounds b (.map #[{ key := a.eval y, val := a.eval v, born := clock }] (clock + 1)) }) hμ hg (by simp) trivial hic rfl rfl rfl (by simp) (fun k' hk' => by simp [Ne.symm hk'])
         (fun hD => ⟨_, _, by simp [hblt]; exact ⟨rfl, rfl⟩, fun h => by cases h⟩)
       exact hK _ _ ⟨_, _, h1.put hd (.dead _)⟩
     · trivial
   · trivial
 | [], ⟨_, hv⟩ => exact hv.elim
 | [_], ⟨_, _, hv⟩ => exact hv.elim
omit hd in
theorem zo5 {id : Nat} {kk : KK} {l : List (Ky × AV)} (hg : g id = some (.mapl kk l)) {v : Value} (r : R w.heap D μ (.mp id) v) :
   ∃ b z m es clock kf, v = .map (some b) /\ μ id = some (some (b, z, m)) /\ yql w.heap D μ kk l b es clock kf := by
 cases r with
 | mp _ b z m hμ =>
   obtain ⟨es, clock, kf, hh⟩ := h.obs id _ _ hg hμ
   exact ⟨b, z, m, es, clock, kf, rfl, hμ, hh⟩
theorem zzt (hT : zbd P T) {x : Operand} {t : Nat} {r : List Nat} {ts : Array TypeId} (hts : ts.toList = t :: r) (e : o.op = .call { callee := .builtin .len, args := #[x], argTypes := ts }) {vals : List AV}
   (hv : Ops w.heap D μ a [x] vals) {ob : Nat -> Option Ob} (hob : ∀ id z, ob id = some z -> g id = some z) {id : Nat} {kk : KK} {l : List (Ky × AV)} (hm : yeh ob vals = some (id, kk, l)) :
   zbw P base M W nt f g c o a w (ymo T t l vals) := by
 obtain ⟨q, rfl, hg⟩ := znz hm
 match q, hv with
 | [], ⟨hv, _⟩ =>
   obtain ⟨b, z, m, es, clock, kf, hu, hμ, hb, hn, -⟩ := zo5 h (hob _ _ hg) hv
   unfold ymo
   simp only
   split
   · rename_i sz ag ze kt et eqf p1 p2 p3 hi
     have ok := (hT t _ hi).k
     simp only [kOk] at ok
     have h0 : ts[0]? = some t := by rw [<- Array.getElem?_toList, hts]; rfl
     refine za0 h hd (u := .int .i64 l.length) ?_ (by rw [zai]; exact .int _ _)
     unfold execOp
     rw [e]
     simp [resolve, invoke, builtin, hu, Builtin.len_, h0, run_underlying ok, MapKept.run_getObj_map hb, Result.andThen, hn]
     rfl
   · trivial
theorem zw9 (hT : zbd P T) {t : TypeId} {x y : Operand} {ok : Bool} (e : o.op = .lookup t x y ok) {vals : List AV} (hv : Ops w.heap D μ a [x, y] vals) {ob : Nat -> Option Ob} (hob : ∀ id z, ob id = some z -> g id = some z)
   {id : Nat} {kk : KK} {l : List (Ky × AV)} (hm : yeh ob vals = some (id, kk, l)) :
   zbw P base M W nt f g c o a w (ydm T t ok kk l vals) := by
 obtain ⟨q, rfl, hg⟩ := znz hm
 match q, hv with
 | [k], ⟨hv, hk, _⟩ =>
   obtain ⟨b, z0, m, es, clock, kf, hu', hμ, hb, hn, hks, hnd, hr⟩ := zo5 h (hob _ _ hg) hv
   unfold ydm
   simp only
   split
   · rename_i sz ag ze kt et eqf p1 p2 p3 hi
     have hu := (hT t _ hi).k
     simp only [kOk] at hu
     split
     · rename_i ei hei
       obtain ⟨z, z1, z2⟩ := (hT et ei hei).zeroR
       have rz : R w.heap D μ (zfk ei) z := z2 _ _ _
       have fin : ∀ (u : Value) (av : AV) (bb : Bool), (Instr.lookup t (a.eval x) (a.eval y) ok).run P w = .ok (cond ok (.tuple #[u, .bool bb]) u) w -> R w.heap D μ av u ->
           Adv P base M W nt f g c o a w (cond ok (.tup [av, .bool bb]) av) [] [] := by
         intro u av bb hrun ru
         cases ok with
         | true =>
           refine za0 h hd (u := .tuple #[u, .bool bb]) ?_ (.tup _ _ rfl (fun i x' v hx hv => ?_))
           · unfold execOp
             rw [e]
             simp [hrun]
           · match i with
             | 0 => simp at hx hv; subst hx; subst hv; exact ru
             | 1 => simp at hx hv; subst hx; subst hv; exact .bool _
             | i + 2 => simp at hx
         | false =>
           refine za0 h hd (u := u) ?_ ru
           unfold execOp
           rw [e]
           simp [hrun]
       split
       · rename_i key hkk hke
         obtain ⟨rfl, hp⟩ := zh6 hkk
         have hkey := zoa hke hk
         obtain ⟨f1, f2, f3⟩ := ze0 hT hks hkey hp w
         rcases f3 with ⟨g1, g2, _⟩ | ⟨j, x', g1, g2, g3, g4, g5⟩
         · split
           · rename_i y' hy; rw [hy] at g1; cases g1
           · refine fin z _ false ?_ rz
             rw [hu']
             unfold Instr.lookup
             simp only [Sem.run_bind, run_underlying hu, Result.andThen_ok, MapKept.run_getObj_map hb, f1, g2, z1, Sem.run_pure]
             cases ok <;> rfl
         · obtain ⟨y', hy, ry⟩ := hr j x' g3
           rw [g2] at hy
           rw [hy]
           refine fin x'.val _ true ?_ ry
           rw [hu']
           unfold Instr.lookup
           simp only [Sem.run_bind, run_underlying hu, Result.andThen_ok, MapKept.run_getObj_map hb, f1, g5, Sem.run_pure]
           cases ok <;> rfl
       · trivial
     · trivial
   · trivial
 | [], ⟨_, hv⟩ => exact hv.elim
theorem zzm (hT : zbd P T) {t : TypeId} {x y v : Operand} (e : o.op = .mapUpdate t x y v) {vals : List AV} (hv : Ops w.heap D μ a [x, y, v] vals) {ob : Nat -> Option Ob} (hob : ∀ id z, ob id = some z -> g id = some z) {ice : Nat -> Bool} (hice : ∀ id, ice id = false -> c id = false)
   {id : Nat} {kk : KK} {l : List (Ky × AV)} (hm : yeh ob vals = some (id, kk, l)) :
   zbw P base M W nt f g c o a w (ymj T t ice id kk l vals) := by
 obtain ⟨q, rfl, hg⟩ := znz hm
 have hg := hob _ _ hg
 match q, hv with
 | [k, val'], ⟨hm, hk, hx, _⟩ =>
   obtain ⟨b, z, m, es, clock, kf, hum, hμ, hb, hn, hks, hnd, hr⟩ := zo5 h hg hm
   unfold ymj
   simp only
   split
   · rename_i sz ag ze kt et eqf p1 p2 p3 hi
     have hu := (hT t _ hi).k
     simp only [kOk] at hu
     split
     · rename_i key hic hkk hke
       have hic := hice _ hic
       obtain ⟨rfl, hp⟩ := zh6 hkk
       have hkey := zoa hke hk
       have hq := ygr hkey hp
       obtain ⟨f1, f2, f3⟩ := ze0 hT hks hkey hp w
       obtain ⟨es', clock', kf', hrun, hn', hks', hr'⟩ : ∃ es' clock' kf', (Instr.mapUpdate t (.map (some b)) (a.eval y) (a.eval v)).run P w = .ok () { w with heap := w.heap.setIfInBounds b (.map es' clock') } /\ es'.size = (zus l key val').length /\
           zd0 (zdp T kt) (fun k => (zbe (zus l key val') k).isSome) es' clock' kf' /\ ∀ (i : Nat) e, es'[i]? = some e -> ∃ x, zbe (zus l key val') (kf' i) = some x /\ R w.heap D μ x e.val := by
         simp only [zq8 hq]
         rcases f3 with ⟨g1, g2, g3⟩ | ⟨j, x', g1, g2, g3, g4, g5⟩
         · refine ⟨es.push { key := a.eval y, val := a.eval v, born := clock }, clock + 1, fun i => if i = es.size then key else kf i, ?_, ?_, ?_, ?_⟩
           · simp [Instr.mapUpdate, run_underlying hu, MapKept.run_getObj_map hb, f1, g2, MapKept.run_setObj_map _ hb, Result.andThen]
           · rw [zur, g1]; simp [hn]
           · refine ⟨fun i x' hx' => ?_, fun k' hk' => ?_, MapKept.stamped_push hks.st g3⟩
             · rw [Array.getElem?_push] at hx'
               split at hx'
               · rename_i hi'; cases hx'; rw [if_pos hi']; exact ⟨hkey, by simp⟩
               · rename_i hi'; rw [if_neg hi']
                 obtain ⟨q1, q2⟩ := hks.key i x' hx'
                 refine ⟨q1, ?_⟩
                 by_cases h2 : kf i = key
                 · simp [h2]
                 · simp only [if_neg h2]; exact q2
             · by_cases h2 : k' = key
               · exact ⟨es.size, by simp, by simp [h2]⟩
               · simp only [if_neg h2] at hk'
                 obtain ⟨i, i1, i2⟩ := hks.all k' hk'
                 exact ⟨i, by simp; omega, by rw [if_neg (by omega)]; exact i2⟩
           · intro i x' hx'
             rw [Array.getElem?_push] at hx'
             split at hx'
             · rename_i hi'; cases hx'; simp only [hi', if_true]
               exact ⟨_, rfl, hx⟩
             · rename_i hi'; simp only [if_neg hi']
               have hne : ¬ kf i = key := by
                 rintro q
                 have := (hks.key i x' hx').2
                 rw [q] at this
                 exact absurd (this.symm.trans g1) (by simp)
               simp only [if_neg hne]
               exact hr i x' hx'
         · have hlt : j < es.size := (Array.getElem?_eq_some_iff.1 g3).1
           refine ⟨es.modify j fun e => { e with key := a.eval y, val := a.eval v }, clock, kf, ?_, ?_, ?_, ?_⟩
           · simp [Instr.mapUpdate, run_underlying hu, MapKept.run_getObj_map hb, f1, f2, g3, g4, g5, MapKept.run_setObj_map _ hb, Result.andThen]
           · rw [zur, g1]; simp [hn]
           · refine ⟨fun i x2 hx2 => ?_, fun k' hk' => ?_, MapKept.stamped_modify hks.st _ _ (fun _ _ => rfl) (fun e' _ he' => by rw [g3] at he'; cases he'; exact g4.symm)⟩
             · rw [Array.getElem?_modify] at hx2
               split at hx2
               · rename_i hi'
                 subst hi'
                 rw [g3] at hx2
                 cases hx2
                 rw [g2]
                 exact ⟨hkey, by simp⟩
               · obtain ⟨q1, q2⟩ := hks.key i x2 hx2
                 refine ⟨q1, ?_⟩
                 by_cases h2 : kf i = key
                 · simp [h2]
                 · simp only [if_neg h2]; exact q2
             · by_cases h2 : k' = key
               · exact ⟨j, by simpa using hlt, by rw [g2, h2]⟩
               · simp only [if_neg h2] at hk'
                 obtain ⟨i, i1, i2⟩ := hks.all k' hk'
                 exact ⟨i, by simpa using i1, i2⟩
           · intro i x2 hx2
             rw [Array.getElem?_modify] at hx2
             split at hx2
             · rename_i hi'
               subst hi'
               rw [g3] at hx2
               cases hx2
               rw [g2]
               exact ⟨_, if_pos rfl, hx⟩
             · rename_i hi'
               have hne : ¬ kf i = key := by
                 rintro q
                 have k1 := (hks.key i x2 hx2).1
                 rw [q] at k1
                 have k3 : x2.key = x'.key := by rw [g4]; exact k1.val hkey
                 have hi2 : i < es.size := (Array.getElem?_eq_some_iff.1 hx2).1
                 have nd := hks.st.2.2
                 have p1 : (es.toList.map (·.key))[i]? = some x2.key := by simp [hx2]
                 have p2 : (es.toList.map (·.key))[j]? = some x'.key := by simp [g3]
                 rw [k3, <- p2] at p1
                 have := (List.getElem?_inj (by simpa using hi2) nd).1 p1
                 exact hi' this.symm
               simp only [if_neg hne]
               exact hr i x2 hx2
       have hblt : b < w.heap.size := (Array.getElem?_eq_some_iff.1 hb).1
       have run : (execOp a.eval o).run P w = .ok .skip { w with heap := w.heap.setIfInBounds b (.map es' clock') } := by
         unfold execOp
         rw [e]
         simp [hum, hrun]
       intro K Q hK
       unfold Oper.wp
       rw [run]
       have h1 := h.turn (ob' := .mapl (zdp T kt) (zus l key val')) (w' := { w with heap := w.heap.setIfInBounds b (.map es' clock') }) hμ hg (by simp) trivial hic rfl rfl rfl (by simp) (fun k' hk' => by simp [Ne.symm hk'])
         (fun hD => ⟨es', clock', kf', by simp [hblt], hn', hks', zx7 hq _ hnd, fun i x' hx' => by
           obtain ⟨y', y1, y2⟩ := hr' i x' hx'
           exact ⟨y', y1, y2.mono hD (fun _ h => h) (fun _ _ h => h)⟩⟩)
       exact hK _ _ ⟨_, _, h1.put hd (.dead _)⟩
     · trivial
   · trivial
 | [], ⟨_, hv⟩ => exact hv.elim
 | [_], ⟨_, _, hv⟩ => exact hv.elim
theorem zw1 (hT : zbd P T) {x y : Operand} {t t' : Nat} {ts : Array TypeId} (hts : ts.toList = [t, t']) (e : o.op = .call { callee := .builtin .delete, args := #[x, y], argTypes := ts }) {vals : List AV} (hv : Ops w.heap D μ a [x, y] vals) {ob : Nat -> Option Ob} (hob : ∀ id z, ob id = some z -> g id = some z) {ice : Nat -> Bool} (hice : ∀ id, ice id = false -> c id = false)
   {id : Nat} {kk : KK} {l : List (Ky × AV)} (hm : yeh ob vals = some (id, kk, l)) :
   zbw P base M W nt f g c o a w (ydd T t ice id kk l vals) := by
 have hts' : ts = #[t, t'] := by apply Array.ext'; simpa using hts
 subst hts'
 obtain ⟨q, rfl, hg⟩ := znz hm
 have hg := hob _ _ hg
 match q, hv with
 | [k], ⟨hm, hk, _⟩ =>
   obtain ⟨b, z, m, es, clock, kf, hum, hμ, hb, hn, hks, hnd, hr⟩ := zo5 h hg hm
   unfold ydd
   simp only
   split
   · rename_i sz ag ze kt et eqf p1 p2 p3 hi
     have hu := (hT t _ hi).k
     simp only [kOk] at hu
     split
     · rename_i key hic hkk hke
       have hic := hice _ hic
       obtain ⟨rfl, hp⟩ := zh6 hkk
       have hkey := zoa hke hk
       obtain ⟨f1, f2, f3⟩ := ze0 hT hks hkey hp w
       obtain ⟨es', kf', hrun, hn', hks', hr'⟩ : ∃ es' kf', (Builtin.delete_ #[t, t'] o.type #[.map (some b), a.eval y]).run P w = .ok (.tuple #[]) { w with heap := w.heap.setIfInBounds b (.map es' clock) } /\ es'.size = (zsc l key).length /\
           zd0 (zdp T kt) (fun k => (zbe (zsc l key) k).isSome) es' clock kf' /\ ∀ (i : Nat) e, es'[i]? = some e -> ∃ x, zbe (zsc l key) (kf' i) = some x /\ R w.heap D μ x e.val := by
         simp only [zqa _ l hnd]
         rcases f3 with ⟨g1, g2, g3⟩ | ⟨j, x', g1, g2, g3, g4, g5⟩
         · have hne : ∀ i x', es[i]? = some x' -> ¬ kf i = key := by
             rintro i x' hx' q
             have := (hks.key i x' hx').2
             rw [q] at this
             exact absurd (this.symm.trans g1) (by simp)
           refine ⟨es, kf, ?_, by rw [zoc, g1]; simpa using hn, ⟨fun i x' hx' => ⟨(hks.key i x' hx').1, ?_⟩, fun k' hk' => hks.all k' ?_, hks.st⟩, fun i x' hx' => ?_⟩
           · simp [Builtin.delete_, run_underlying hu, MapKept.run_getObj_map hb, f1, g2, MapKept.run_setObj_map _ hb, Result.andThen]
           · simp only [if_neg (hne i x' hx')]; exact (hks.key i x' hx').2
           · by_cases h2 : k' = key
             · simp [h2] at hk'
             · simpa only [if_neg h2] using hk'
           · simp only [if_neg (hne i x' hx')]; exact hr i x' hx'
         · have hlt : j < es.size := (Array.getElem?_eq_some_iff.1 g3).1
           have hers : ∀ i : Nat, (es.eraseIdxIfInBounds j)[i]? = if i < j then es[i]? else es[i + 1]? := by
             intro i
             unfold Array.eraseIdxIfInBounds
             rw [dif_pos hlt, Array.getElem?_eraseIdx]
           have inj : ∀ i e, es[i]? = some e -> kf i = key -> i = j := by
             intro i e1 he1 q
             have k1 := (hks.key i e1 he1).1
             rw [q] at k1
             have k3 : e1.key = x'.key := by rw [g4]; exact k1.val hkey
             have hi2 : i < es.size := (Array.getElem?_eq_some_iff.1 he1).1
             have p1 : (es.toList.map (·.key))[i]? = some e1.key := by simp [he1]
             have p2 : (es.toList.map (·.key))[j]? = some x'.key := by simp [g3]
             rw [k3, <- p2] at p1
             exact (List.getElem?_inj (by simpa using hi2) hks.st.2.2).1 p1
           refine ⟨es.eraseIdxIfInBounds j, fun i => if i < j then kf i else kf (i + 1), ?_, ?_, ⟨fun i x2 hx2 => ?_, fun k' hk' => ?_, MapKept.stamped_erase hks.st j⟩, fun i x2 hx2 => ?_⟩
           · simp [Builtin.delete_, run_underlying hu, MapKept.run_getObj_map hb, f1, g5, MapKept.run_setObj_map _ hb, Result.andThen]
           · rw [zoc, g1, if_pos rfl, <- hn]
             unfold Array.eraseIdxIfInBounds
             rw [dif_pos hlt]
             simp
           · rw [hers] at hx2
             have fin : ∀ i' (e2 : MapEntry), es[i']? = some e2 -> i' ≠ j -> zn2 (zdp T kt) e2.key (kf i') /\ (if kf i' = key then none else zbe l (kf i')).isSome = true := by
               intro i' e2 he2 hne
               obtain ⟨q1, q2⟩ := hks.key i' e2 he2
               exact ⟨q1, by rw [if_neg (fun q => hne (inj i' e2 he2 q))]; exact q2⟩
             by_cases hij : i < j
             · rw [if_pos hij] at hx2; simp only [if_pos hij]; exact fin i x2 hx2 (by omega)
             · rw [if_neg hij] at hx2; simp only [if_neg hij]; exact fin (i + 1) x2 hx2 (by omega)
           · have h2 : ¬ k' = key := by rintro rfl; simp at hk'
             simp only [if_neg h2] at hk'
             obtain ⟨i, i1, i2⟩ := hks.all k' hk'
             have hij : i ≠ j := by rintro rfl; rw [g2] at i2; exact h2 i2.symm
             have hsz : (es.eraseIdxIfInBounds j).size = es.size - 1 := by
               unfold Array.eraseIdxIfInBounds
               rw [dif_pos hlt]
               simp
             rw [hsz]
             by_cases hlt' : i < j
             · exact ⟨i, by omega, by simp only [if_pos hlt']; exact i2⟩
             · exact ⟨i - 1, by omega, by simp only [if_neg (show ¬ i - 1 < j by omega)]; rw [show i - 1 + 1 = i by omega]; exact i2⟩
           · rw [hers] at hx2
             have fin : ∀ i' (e2 : MapEntry), es[i']? = some e2 -> i' ≠ j -> ∃ x, (if kf i' = key then none else zbe l (kf i')) = some x /\ R w.heap D μ x e2.val := by
               intro i' e2 he2 hne
               rw [if_neg (fun q => hne (inj i' e2 he2 q))]
               exact hr i' e2 he2
             by_cases hij : i < j
             · rw [if_pos hij] at hx2; simp only [if_pos hij]; exact fin i x2 hx2 (by omega)
             · rw [if_neg hij] at hx2; simp only [if_neg hij]; exact fin (i + 1) x2 hx2 (by omega)
       have hblt : b < w.heap.size := (Array.getElem?_eq_some_iff.1 hb).1
       have run : (execOp a.eval o).run P w = .ok (.value (.tuple #[])) { w with heap := w.heap.setIfInBounds b (.map es' clock) } := by
         unfold execOp
         rw [e]
         simp [resolve, invoke, builtin, hum, hrun]
       intro K Q hK
       unfold Oper.wp
       rw [run]
       have h1 := h.turn (ob' := .mapl (zdp T kt) (zsc l key)) (w' := { w with heap := w.heap.setIfInBounds b (.map es' clock) }) hμ hg (by simp) trivial hic rfl rfl rfl (by simp) (fun k' hk' => by simp [Ne.symm hk'])
         (fun hD => ⟨es', clock, kf', by simp [hblt], hn', hks', (((zuw l).map Prod.fst).nodup hnd), fun i x' hx' => by
           obtain ⟨y', y1, y2⟩ := hr' i x' hx'
           exact ⟨y', y1, y2.mono hD (fun _ h => h) (fun _ _ h => h)⟩⟩)
       exact hK _ _ ⟨_, _, h1.put hd (.tup _ _ rfl (fun i x v hx => by simp at hx))⟩
     · trivial
   · trivial
 | [], ⟨_, hv⟩ => exact hv.elim
end
end Sy
end Go.Proofs.Ytogomcfgfnlclaa
namespace Go.Proofs.Ytogomcfgfnlclaa
namespace Sy
open Go Go.RowKit
set_option linter.unusedSimpArgs false
set_option linter.unusedVariables false
theorem zif : ∀ a : List UInt8, slt a a = false
 | [] => rfl
 | x :: a => by
   have ih := zif a
   unfold slt at ih |-
   simp [Op.bytesLess, ih]
theorem zyy : ∀ {a b d : List UInt8}, slt a b = true -> slt b d = true -> slt a d = true
 | [], b, [], _, h => by
   cases b <;> simp [slt, Op.bytesLess] at h
 | [], _, _ :: _, _, _ => by simp [slt, Op.bytesLess]
 | x :: a, [], _, h, _ => by simp [slt, Op.bytesLess] at h
 | x :: a, y :: b, [], _, h => by simp [slt, Op.bytesLess] at h
 | x :: a, y :: b, z :: d, h1, h2 => by
   have ih := @zyy a b d
   unfold slt at ih h1 h2 |-
   simp only [Op.bytesLess, Bool.or_eq_true, Bool.and_eq_true, decide_eq_true_eq, beq_iff_eq] at h1 h2 |-
   rcases h1 with h1 | ⟨rfl, h1⟩
   · rcases h2 with h2 | ⟨rfl, h2⟩
     · exact .inl (by rw [UInt8.lt_iff_toNat_lt] at *; omega)
     · exact .inl h1
   · rcases h2 with h2 | ⟨rfl, h2⟩
     · exact .inl h2
     · exact .inr ⟨rfl, ih h1 h2⟩
theorem zyx : ∀ a b : List UInt8, a = b \/ slt a b = true \/ slt b a = true
 | [], [] => .inl rfl
 | [], _ :: _ => .inr (.inl (by simp [slt, Op.bytesLess]))
 | _ :: _, [] => .inr (.inr (by simp [slt, Op.bytesLess]))
 | x :: a, y :: b => by
   have ih := zyx a b
   unfold slt at ih |-
   simp only [Op.bytesLess, Bool.or_eq_true, Bool.and_eq_true, decide_eq_true_eq, beq_iff_eq, List.cons.injEq]
   rcases Nat.lt_trichotomy x.toNat y.toNat with h | h | h
   · exact .inr (.inl (.inl (UInt8.lt_iff_toNat_lt.2 h)))
   · obtain rfl := UInt8.toNat_inj.1 h
     rcases ih with ih | ih | ih
     · exact .inl ⟨rfl, ih⟩
     · exact .inr (.inl (.inr ⟨rfl, ih⟩))
     · exact .inr (.inr (.inr ⟨rfl, ih⟩))
   · exact .inr (.inr (.inl (UInt8.lt_iff_toNat_lt.2 h)))
theorem zo0 (k : List UInt8) (v : Nat) (k' : List UInt8) : ∀ l, zc8 (zgu l k v) k' = (decide (k' = k) || zc8 l k')
 | [] => by by_cases h : k = k' <;> simp [zgu, zc8, h, eq_comm]
 | x :: l => by
   unfold zgu
   by_cases h : x.1 = k
   · rw [decide_eq_true h, cond_true]
     simp only [zc8, h]
     by_cases h2 : k = k' <;> simp [h2, eq_comm]
   · rw [decide_eq_false h, cond_false]
     cases h3 : slt k x.1 with
     | true =>
       rw [cond_true]
       simp only [zc8]
       by_cases h2 : k = k' <;> simp [h2, eq_comm]
     | false =>
       rw [cond_false]
       simp only [zc8, zo0 k v k' l]
       by_cases h2 : x.1 = k' <;> simp [h2]
theorem znw (k : List UInt8) (v : Nat) (k' : List UInt8) : ∀ l, zds (zgu l k v) k' = if k' = k then v else zds l k'
 | [] => by by_cases h : k = k' <;> simp [zgu, zds, h, eq_comm]
 | x :: l => by
   unfold zgu
   by_cases h : x.1 = k
   · rw [decide_eq_true h, cond_true]
     simp only [zds, h]
     by_cases h2 : k = k'
     · simp [h2]
     · rw [decide_eq_false h2, if_neg (fun e => h2 e.symm)]; simp
   · rw [decide_eq_false h, cond_false]
     cases h3 : slt k x.1 with
     | true =>
       rw [cond_true]
       simp only [zds]
       by_cases h2 : k = k'
       · simp [h2]
       · rw [decide_eq_false h2, if_neg (fun e => h2 e.symm)]; simp
     | false =>
       rw [cond_false]
       simp only [zds, znw k v k' l]
       by_cases h2 : x.1 = k'
       · rw [decide_eq_true h2, cond_true, cond_true, if_neg (fun e => h (h2.trans e))]
       · rw [decide_eq_false h2, cond_false, cond_false]
theorem zfc {l : List (List UInt8 × Nat)} {k : List UInt8} : zc8 l k = true ↔ k ∈ l.map Prod.fst := by
 induction l with
 | nil => simp [zc8]
 | cons x l ih =>
   simp only [zc8, List.map_cons, List.mem_cons]
   by_cases h : x.1 = k
   · simp [h]
   · rw [decide_eq_false h, cond_false, ih]
     exact ⟨.inr, fun e => e.elim (fun e => absurd e.symm h) id⟩
theorem ybj {x : List UInt8 × Nat} {l : List (List UInt8 × Nat)} (h : zin (x :: l)) {k : List UInt8} (hk : slt k x.1 = true) : zc8 (x :: l) k = false := by
 rw [<- Bool.not_eq_true, zfc]
 intro hm
 simp only [List.map_cons, List.mem_cons, List.mem_map] at hm
 rcases hm with rfl | ⟨y, hy, rfl⟩
 · rw [zif] at hk; cases hk
 · have := zyy hk ((List.pairwise_cons.1 h).1 y hy)
   rw [zif] at this; cases this
theorem zu7 {k : List UInt8} {v : Nat} : ∀ {l : List (List UInt8 × Nat)} {y}, y ∈ zgu l k v -> y = (k, v) \/ y ∈ l
 | [], y, h => by simpa [zgu] using h
 | x :: l, y, h => by
   unfold zgu at h
   cases h1 : decide (x.1 = k) with
   | true =>
     rw [h1, cond_true] at h
     rcases List.mem_cons.1 h with h | h
     · exact .inl h
     · exact .inr (.tail _ h)
   | false =>
     rw [h1, cond_false] at h
     cases h2 : slt k x.1 with
     | true =>
       rw [h2, cond_true] at h
       rcases List.mem_cons.1 h with h | h
       · exact .inl h
       · exact .inr h
     | false =>
       rw [h2, cond_false] at h
       rcases List.mem_cons.1 h with h | h
       · exact .inr (by rw [h]; exact .head _)
       · rcases zu7 h with h | h
         · exact .inl h
         · exact .inr (.tail _ h)
theorem zpz {k : List UInt8} {v : Nat} : ∀ {l}, zin l -> zin (zgu l k v)
 | [], _ => by simp [zgu, zin]
 | x :: l, h => by
   have h' := List.pairwise_cons.1 h
   unfold zgu
   by_cases h1 : x.1 = k
   · rw [decide_eq_true h1, cond_true]
     exact List.pairwise_cons.2 ⟨fun y hy => by rw [<- h1]; exact h'.1 y hy, h'.2⟩
   · rw [decide_eq_false h1, cond_false]
     cases h2 : slt k x.1 with
     | true =>
       rw [cond_true]
       refine List.pairwise_cons.2 ⟨fun y hy => ?_, h⟩
       rcases List.mem_cons.1 hy with rfl | hy
       · exact h2
       · exact zyy h2 (h'.1 y hy)
     | false =>
       rw [cond_false]
       have h3 : slt x.1 k = true := by
         rcases zyx x.1 k with e | e | e
         · exact absurd e h1
         · exact e
         · rw [h2] at e; cases e
       refine List.pairwise_cons.2 ⟨fun y hy => ?_, zpz h'.2⟩
       rcases zu7 hy with rfl | hy
       · exact h3
       · exact h'.1 y hy
theorem zu8 {k : List UInt8} {v : Nat} : ∀ {l}, zin l -> (zgu l k v).length = zx3 (zc8 l k) l.length
 | [], _ => by simp [zgu, zc8, zx3]
 | x :: l, h => by
   have h' := List.pairwise_cons.1 h
   unfold zgu
   by_cases h1 : x.1 = k
   · rw [decide_eq_true h1, cond_true]
     simp [zc8, h1, zx3]
   · rw [decide_eq_false h1, cond_false]
     cases h2 : slt k x.1 with
     | true =>
       rw [cond_true, ybj h h2]
       simp [zx3]
     | false =>
       rw [cond_false, List.length_cons, zu8 h'.2]
       simp only [zc8, decide_eq_false h1, cond_false]
       cases zc8 l k <;> simp [zx3]
theorem zug (k : List UInt8) : ∀ l : List (List UInt8 × Nat), (ziy l k).Sublist l
 | [] => by simp [ziy]
 | x :: l => by
   unfold ziy
   by_cases h1 : x.1 = k
   · rw [decide_eq_true h1, cond_true]; exact List.sublist_cons_self _ _
   · rw [decide_eq_false h1, cond_false]; exact (zug k l).cons_cons _
theorem ybs {k : List UInt8} {l} (h : zin l) : zin (ziy l k) := List.Pairwise.sublist (zug k l) h
theorem zo1 {k : List UInt8} (k' : List UInt8) : ∀ {l}, zin l -> zc8 (ziy l k) k' = (!decide (k' = k) && zc8 l k')
 | [], _ => by simp [ziy, zc8]
 | x :: l, h => by
   have h' := List.pairwise_cons.1 h
   unfold ziy
   by_cases h1 : x.1 = k
   · rw [decide_eq_true h1, cond_true]
     by_cases h2 : k' = k
     · subst h2
       subst h1
       rw [decide_eq_true rfl]
       simp only [Bool.not_true, Bool.false_and]
       rw [<- Bool.not_eq_true, zfc]
       intro hm
       obtain ⟨y, hy, e⟩ := List.mem_map.1 hm
       have := h'.1 y hy
       rw [e, zif] at this; cases this
     · rw [decide_eq_false h2]
       simp [zc8, h1, Ne.symm h2]
   · rw [decide_eq_false h1, cond_false]
     simp only [zc8, zo1 k' h'.2]
     by_cases h2 : x.1 = k'
     · have : ¬ k' = k := fun e => h1 (h2.trans e)
       simp [h2, this]
     · simp [h2]
theorem zu5 {k k' : List UInt8} (hk : ¬ k' = k) : ∀ {l}, zds (ziy l k) k' = zds l k'
 | [] => by simp [ziy, zds]
 | x :: l => by
   unfold ziy
   by_cases h1 : x.1 = k
   · rw [decide_eq_true h1, cond_true]
     simp only [zds]
     rw [decide_eq_false (fun e => hk (e.symm.trans h1)), cond_false]
   · rw [decide_eq_false h1, cond_false]
     simp only [zds, zu5 hk]
theorem zuh {k : List UInt8} : ∀ {l : List (List UInt8 × Nat)}, (ziy l k).length = zx4 (zc8 l k) l.length
 | [] => by simp [ziy, zc8, zx4]
 | x :: l => by
   unfold ziy
   by_cases h1 : x.1 = k
   · rw [decide_eq_true h1, cond_true]; simp [zc8, h1, zx4]
   · rw [decide_eq_false h1, cond_false, List.length_cons, zuh]
     simp only [zc8, decide_eq_false h1, cond_false]
     cases e : zc8 l k with
     | false => simp [zx4]
     | true =>
       have : l ≠ [] := by rintro rfl; cases e
       have := List.length_pos_iff.2 this
       simp only [zx4, cond_true, List.length_cons]
       omega
theorem zny {l : List Nat} {k : Nat} : zwy l k = true ↔ k ∈ l := by simp [zwy]
theorem zgi {l : List Nat} {k q : Nat} : q ∈ yei l k ↔ q = k \/ q ∈ l := by
 unfold yei
 cases e : zwy l k with
 | true =>
   rw [cond_true]
   exact ⟨.inr, fun h => h.elim (fun h => by rw [h]; exact zny.1 e) id⟩
 | false => rw [cond_false, List.mem_cons]
section
variable {P : Program} {T : TT} {w : World}
theorem yg7 (hT : zbd P T) {t kt et : TypeId} {has : Ky -> Bool} {es : Array MapEntry} {clock b : Nat} {kf : Nat -> Ky} (hu : P.underlying t = some (.map kt et)) (hb : w.heap[b]? = some (.map es clock)) (hks : zd0 (zdp T kt) has es clock kf)
   {kv : Value} {key : Ky} (hkey : zn2 (zdp T kt) kv key) (hp : zhn (zdp T kt) = true) (vv : Value) :
   ∃ es' clock' kf', (Instr.mapUpdate t (.map (some b)) kv vv).run P w = .ok () { w with heap := w.heap.setIfInBounds b (.map es' clock') } /\ es'.size = zx3 (has key) es.size /\
     zd0 (zdp T kt) (fun k => decide (k = key) || has k) es' clock' kf' /\ ∀ (i : Nat) e, es'[i]? = some e -> (kf' i = key /\ e.val = vv) \/ (¬ kf' i = key /\ ∃ (j : Nat) (e0 : MapEntry), es[j]? = some e0 /\ kf j = kf' i /\ e.val = e0.val) := by
 obtain ⟨f1, f2, f3⟩ := ze0 hT hks hkey hp w
 rcases f3 with ⟨g1, g2, g3⟩ | ⟨j, x', g1, g2, g3, g4, g5⟩
 · refine ⟨es.push { key := kv, val := vv, born := clock }, clock + 1, fun i => if i = es.size then key else kf i, ?_, ?_, ?_, ?_⟩
   · simp [Instr.mapUpdate, run_underlying hu, MapKept.run_getObj_map hb, f1, g2, MapKept.run_setObj_map _ hb, Result.andThen]
   · simp [zx3, g1]
   · refine ⟨fun i x' hx' => ?_, fun k' hk' => ?_, MapKept.stamped_push hks.st g3⟩
     · rw [Array.getElem?_push] at hx'
       split at hx'
       · rename_i hi'; cases hx'; rw [if_pos hi']; exact ⟨hkey, by simp⟩
       · rename_i hi'; rw [if_neg hi']
         obtain ⟨q1, q2⟩ := hks.key i x' hx'
         exact ⟨q1, by simp [q2]⟩
     · by_cases h2 : k' = key
       · exact ⟨es.size, by simp, by simp [h2]⟩
       · simp only [decide_eq_false h2, Bool.false_or] at hk'
         obtain ⟨i, i1, i2⟩ := hks.all k' hk'
         exact ⟨i, by simp; omega, by rw [if_neg (by omega)]; exact i2⟩
   · intro i x' hx'
     rw [Array.getElem?_push] at hx'
     split at hx'
     · rename_i hi'; cases hx'; simp only [hi', if_true]
       exact .inl ⟨trivial, trivial⟩
     · rename_i hi'; simp only [if_neg hi']
       have hne : ¬ kf i = key := by
         rintro q
         have := (hks.key i x' hx').2
         rw [q] at this
         exact absurd (this.symm.trans g1) (by simp)
       exact .inr ⟨hne, i, x', hx', rfl, rfl⟩
 · have hlt : j < es.size := (Array.getElem?_eq_some_iff.1 g3).1
   refine ⟨es.modify j fun e => { e with key := kv, val := vv }, clock, kf, ?_, ?_, ?_, ?_⟩
   · simp [Instr.mapUpdate, run_underlying hu, MapKept.run_getObj_map hb, f1, f2, g3, g4, g5, MapKept.run_setObj_map _ hb, Result.andThen]
   · simp [zx3, g1]
   · refine ⟨fun i x2 hx2 => ?_, fun k' hk' => ?_, MapKept.stamped_modify hks.st _ _ (fun _ _ => rfl) (fun e' _ he' => by rw [g3] at he'; cases he'; exact g4.symm)⟩
     · rw [Array.getElem?_modify] at hx2
       split at hx2
       · rename_i hi'
         subst hi'
         rw [g3] at hx2
         cases hx2
         rw [g2]
         exact ⟨hkey, by simp⟩
       · obtain ⟨q1, q2⟩ := hks.key i x2 hx2
         exact ⟨q1, by simp [q2]⟩
     · by_cases h2 : k' = key
       · exact ⟨j, by simpa using hlt, by rw [g2, h2]⟩
       · simp only [decide_eq_false h2, Bool.false_or] at hk'
         obtain ⟨i, i1, i2⟩ := hks.all k' hk'
         exact ⟨i, by simpa using i1, i2⟩
   · intro i x2 hx2
     rw [Array.getElem?_modify] at hx2
     split at hx2
     · rename_i hi'
       subst hi'
       rw [g3] at hx2
       cases hx2
       exact .inl ⟨g2, rfl⟩
     · rename_i hi'
       have hne : ¬ kf i = key := by
         rintro q
         have k1 := (hks.key i x2 hx2).1
         rw [q] at k1
         have k3 : x2.key = x'.key := by rw [g4]; exact k1.val hkey
         have hi2 : i < es.size := (Array.getElem?_eq_some_iff.1 hx2).1
         have nd := hks.st.2.2
         have p1 : (es.toList.map (·.key))[i]? = some x2.key := by simp [hx2]
         have p2 : (es.toList.map (·.key))[j]? = some x'.key := by simp [g3]
         rw [k3, <- p2] at p1
         have := (List.getElem?_inj (by simpa using hi2) nd).1 p1
         exact hi' this.symm
       exact .inr ⟨hne, i, x2, hx2, rfl, rfl⟩
theorem ygf (hT : zbd P T) {t t' ot kt et : TypeId} {has : Ky -> Bool} {es : Array MapEntry} {clock b : Nat} {kf : Nat -> Ky} (hu : P.underlying t = some (.map kt et)) (hb : w.heap[b]? = some (.map es clock)) (hks : zd0 (zdp T kt) has es clock kf)
   {kv : Value} {key : Ky} (hkey : zn2 (zdp T kt) kv key) (hp : zhn (zdp T kt) = true) :
   ∃ es' kf', (Builtin.delete_ #[t, t'] ot #[.map (some b), kv]).run P w = .ok (.tuple #[]) { w with heap := w.heap.setIfInBounds b (.map es' clock) } /\ es'.size = zx4 (has key) es.size /\
     zd0 (zdp T kt) (fun k => !decide (k = key) && has k) es' clock kf' /\ ∀ (i : Nat) e, es'[i]? = some e -> ¬ kf' i = key /\ ∃ (j : Nat) (e0 : MapEntry), es[j]? = some e0 /\ kf j = kf' i /\ e.val = e0.val := by
 obtain ⟨f1, f2, f3⟩ := ze0 hT hks hkey hp w
 rcases f3 with ⟨g1, g2, g3⟩ | ⟨j, x', g1, g2, g3, g4, g5⟩
 · have hne : ∀ i x', es[i]? = some x' -> ¬ kf i = key := by
     rintro i x' hx' q
     have := (hks.key i x' hx').2
     rw [q] at this
     exact absurd (this.symm.trans g1) (by simp)
   refine ⟨es, kf, ?_, by simp [zx4, g1], ⟨fun i x' hx' => ⟨(hks.key i x' hx').1, ?_⟩, fun k' hk' => hks.all k' ?_, hks.st⟩, fun i x' hx' => ⟨hne i x' hx', i, x', hx', rfl, rfl⟩⟩
   · simp [Builtin.delete_, run_underlying hu, MapKept.run_getObj_map hb, f1, g2, MapKept.run_setObj_map _ hb, Result.andThen]
   · simp [hne i x' hx', (hks.key i x' hx').2]
   · simp only [Bool.and_eq_true] at hk'; exact hk'.2
 · have hlt : j < es.size := (Array.getElem?_eq_some_iff.1 g3).1
   have hers : ∀ i : Nat, (es.eraseIdxIfInBounds j)[i]? = if i < j then es[i]? else es[i + 1]? := by
     intro i
     unfold Array.eraseIdxIfInBounds
     rw [dif_pos hlt, Array.getElem?_eraseIdx]
   have inj : ∀ i e, es[i]? = some e -> kf i = key -> i = j := by
     intro i e1 he1 q
     have k1 := (hks.key i e1 he1).1
     rw [q] at k1
     have k3 : e1.key = x'.key := by rw [g4]; exact k1.val hkey
     have hi2 : i < es.size := (Array.getElem?_eq_some_iff.1 he1).1
     have p1 : (es.toList.map (·.key))[i]? = some e1.key := by simp [he1]
     have p2 : (es.toList.map (·.key))[j]? = some x'.key := by simp [g3]
     rw [k3, <- p2] at p1
     exact (List.getElem?_inj (by simpa using hi2) hks.st.2.2).1 p1
   have hsz : (es.eraseIdxIfInBounds j).size = es.size - 1 := by
     unfold Array.eraseIdxIfInBounds
     rw [dif_pos hlt]
     simp
   refine ⟨es.eraseIdxIfInBounds j, fun i => if i < j then kf i else kf (i + 1), ?_, by rw [hsz]; simp [zx4, g1], ⟨fun i x2 hx2 => ?_, fun k' hk' => ?_, MapKept.stamped_erase hks.st j⟩, fun i x2 hx2 => ?_⟩
   · simp [Builtin.delete_, run_underlying hu, MapKept.run_getObj_map hb, f1, g5, MapKept.run_setObj_map _ hb, Result.andThen]
   · rw [hers] at hx2
     have fin : ∀ i' (e2 : MapEntry), es[i']? = some e2 -> i' ≠ j -> zn2 (zdp T kt) e2.key (kf i') /\ (!decide (kf i' = key) && has (kf i')) = true := by
       intro i' e2 he2 hne
       obtain ⟨q1, q2⟩ := hks.key i' e2 he2
       have hnk : ¬ kf i' = key := fun q => hne (inj i' e2 he2 q)
       exact ⟨q1, by simp [q2, hnk]⟩
     by_cases hij : i < j
     · rw [if_pos hij] at hx2; simp only [if_pos hij]; exact fin i x2 hx2 (by omega)
     · rw [if_neg hij] at hx2; simp only [if_neg hij]; exact fin (i + 1) x2 hx2 (by omega)
   · simp only [Bool.and_eq_true, Bool.not_eq_true', decide_eq_false_iff_not] at hk'
     obtain ⟨i, i1, i2⟩ := hks.all k' hk'.2
     have hij : i ≠ j := by rintro rfl; rw [g2] at i2; exact hk'.1 i2.symm
     rw [hsz]
     by_cases hlt' : i < j
     · exact ⟨i, by omega, by simp only [if_pos hlt']; exact i2⟩
     · exact ⟨i - 1, by omega, by simp only [if_neg (show ¬ i - 1 < j by omega)]; rw [show i - 1 + 1 = i by omega]; exact i2⟩
   · rw [hers] at hx2
     have fin : ∀ i' (e2 : MapEntry), es[i']? = some e2 -> i' ≠ j -> ¬ kf i' = key /\ ∃ (j : Nat) (e0 : MapEntry), es[j]? = some e0 /\ kf j = kf i' /\ e2.val = e0.val := by
       intro i' e2 he2 hne
       exact ⟨fun q => hne (inj i' e2 he2 q), i', e2, he2, rfl, rfl⟩
     by_cases hij : i < j
     · rw [if_pos hij] at hx2; simp only [if_pos hij]; exact fin i x2 hx2 (by omega)
     · rw [if_neg hij] at hx2; simp only [if_neg hij]; exact fin (i + 1) x2 hx2 (by omega)
theorem yfj {a b : Addr} {ca cb : Array Value} {ta tb : TypeId} {fa fb : Nat × Nat} (ha : w.heap[a.block]? = some (.cells ca ta fa)) (hb : w.heap[b.block]? = some (.cells cb tb fb))
   (h1 : zu3 (ca.size + 1) fa) (h2 : zu3 (cb.size + 1) fb) (oa : a.off <= ca.size) (ob : b.off <= cb.size) (za : 0 < ca.size) (zb : 0 < cb.size) : (sameAddr a b).run P w = .ok (decide (a = b)) w := by
 have f1 : ∀ (x : Nat), x <= ca.size -> (decide (fa.1 <= x) && decide (x < fa.2)) = false := fun x hx => by
   have := h1 x (by omega)
   by_cases e : fa.1 <= x <;> simp [e]
   · have := fun h => this ⟨e, h⟩; omega
 have f2 : ∀ (x : Nat), x <= cb.size -> (decide (fb.1 <= x) && decide (x < fb.2)) = false := fun x hx => by
   have := h2 x (by omega)
   by_cases e : fb.1 <= x <;> simp [e]
   · have := fun h => this ⟨e, h⟩; omega
 by_cases hbl : a.block = b.block
 · simp only [sameAddr, hbl, beq_self_eq_true, if_true, Sem.run_pure]
   by_cases e : a = b
   · subst e; simp
   · simp [e]
 · have hne : a ≠ b := fun e => hbl (by rw [e])
   have g1 := f1 a.off oa
   have g2 := f2 b.off ob
   have g3 := f1 ca.size (Nat.le_refl _)
   have g4 := f2 cb.size (Nat.le_refl _)
   have n1 : ¬ (fa.1 <= a.off /\ a.off < fa.2) := fun h => by simp [h.1, h.2] at g1
   have n2 : ¬ (fb.1 <= b.off /\ b.off < fb.2) := fun h => by simp [h.1, h.2] at g2
   have n3 : ¬ (fa.1 <= ca.size /\ ca.size < fa.2) := fun h => by simp [h.1, h.2] at g3
   have n4 : ¬ (fb.1 <= cb.size /\ cb.size < fb.2) := fun h => by simp [h.1, h.2] at g4
   have z1 : ca.size ≠ 0 := by omega
   have z2 : cb.size ≠ 0 := by omega
   simp [sameAddr, hbl, hne, World.frozen?, ha, hb, noView, viewAt, World.shape?, mayBeOne, stringish, z1, z2, n1, n2, n3, n4]
end
section
variable {P : Program} {T : TT} {base : Nat} {M : Two} {W : World} {nt : Nat} {f : Nat -> Option AV} {g : Nat -> Option Ob} {c : Nat -> Bool} {a : Act} {w : World} {D : Nat -> Prop} {μ : Mu} {o : Oper}
variable (h : Sim base M W nt f g c a w D μ) (hd : ∀ d, o.dst = some d -> d < nt)
omit h hd in
theorem zgh (hT : zbd P T) {t kt et : Nat} (e : zkq T t = some (kt, et)) : P.underlying t = some (.map kt et) := by
 unfold zkq at e
 split at e
 · rename_i hi
   cases e
   exact (hT t _ hi).k
 · cases e
omit h hd in
theorem yam (hT : zbd P T) {t e : Nat} (he : yor T t = some e) : P.underlying t = some (.pointer e) /\ ∀ w : World, (zeroValue t).run P w = .ok (.pointer none) w := by
 unfold yor at he
 split at he
 · rename_i hi
   cases he
   have ok := hT t _ hi
   refine ⟨ok.ptf _ rfl, fun w => ?_⟩
   obtain ⟨z, z1, z2⟩ := ok.zeroR
   have r := z2 w.heap (fun _ => False) zar
   have r : R w.heap (fun _ => False) zar .nilp z := r
   cases r
   exact z1 w
 · cases he
omit h hd in
theorem znx {ob : Nat -> Option Ob} {vals : List AV} {id q sz : Nat} {l : List (List UInt8 × Nat)} (e : yeg ob vals = some (id, q, sz, l)) : ∃ r, vals = .mp id :: r /\ ob id = some (.mapp q sz l) := by
 unfold yeg at e
 split at e
 · rename_i id' r
   split at e
   · rename_i h; cases e; exact ⟨r, rfl, h⟩
   · cases e
 · cases e
omit h hd in
theorem ybk {ob : Nat -> Option Ob} {vals : List AV} {id q sz : Nat} {l : List Nat} (e : ynb ob vals = some (id, q, sz, l)) : ∃ r, vals = .mp id :: r /\ ob id = some (.mapr q sz l) := by
 unfold ynb at e
 split at e
 · rename_i id' r
   split at e
   · rename_i h; cases e; exact ⟨r, rfl, h⟩
   · cases e
 · cases e
omit h hd in
theorem kkS {kt : Nat} (e : zx8 .s (zdp T kt) = true) : zdp T kt = .s /\ zhn (zdp T kt) = true := by
 obtain ⟨h1, h2⟩ := zh6 e
 exact ⟨h1.symm, h2⟩
include h hd
theorem zw4 (hT : zbd P T) {t : TypeId} {q sz : Nat} (e : o.op = .makeMap t none) : zbw P base M W nt f g c o a w (ydh T o.dst t q sz (zcd g o.op o.dst)) := by
 unfold ydh
 split
 · rename_i d hc
   obtain ⟨hn, hdst⟩ := zbg hc
   have hnew : g d = none := by
     simp only [zcd, e, zbz, hdst] at hn
     cases hg : g d with
     | none => rfl
     | some _ => rw [hg] at hn; cases hn
   split
   · rename_i kt et hke
     split
     · rename_i hkk hq
       have run : (execOp a.eval o).run P w = .ok (.value (.map (some w.heap.size))) (w.alloc (.map #[] 0)) := by
         unfold execOp
         rw [e]
         simp [Instr.makeMap]
       intro K Q hK
       unfold Oper.wp
       rw [run]
       have h1 := h.newO (hd _ hdst) hnew (.mapp q sz []) (.map #[] 0) 0 0 (by simp)
         ⟨zan hq, #[], 0, fun _ => .i 0, heap_alloc_new _ _, rfl, ⟨fun i x hx => (by simp at hx), fun k hk => (by cases k <;> cases hk), MapKept.stamped_empty 0⟩, List.Pairwise.nil, fun i x hx => (by simp at hx)⟩
       exact hK _ _ ⟨_, _, h1.put hd (.mp _ _ 0 0 (by simp))⟩
     · trivial
   · trivial
 · trivial
theorem zw2 (hT : zbd P T) {t : TypeId} {q sz : Nat} (e : o.op = .makeMap t none) : zbw P base M W nt f g c o a w (ydf T o.dst t q sz (zcd g o.op o.dst)) := by
 unfold ydf
 split
 · rename_i d hc
   obtain ⟨hn, hdst⟩ := zbg hc
   have hnew : g d = none := by
     simp only [zcd, e, zbz, hdst] at hn
     cases hg : g d with
     | none => rfl
     | some _ => rw [hg] at hn; cases hn
   split
   · rename_i hke hq
     have run : (execOp a.eval o).run P w = .ok (.value (.map (some w.heap.size))) (w.alloc (.map #[] 0)) := by
       unfold execOp
       rw [e]
       simp [Instr.makeMap]
     intro K Q hK
     unfold Oper.wp
     rw [run]
     have h1 := h.newO (hd _ hdst) hnew (.mapr q sz []) (.map #[] 0) 0 0 (by simp)
       ⟨zan hq, #[], 0, fun _ => 0, heap_alloc_new _ _, fun i x hx => (by simp at hx), fun k hk => (by simp at hk)⟩
     exact hK _ _ ⟨_, _, h1.put hd (.mp _ _ 0 0 (by simp))⟩
   · trivial
 · trivial
omit hd in
theorem zo4 {id q sz : Nat} {l : List (List UInt8 × Nat)} (hg : g id = some (.mapp q sz l)) {v : Value} (r : R w.heap D μ (.mp id) v) :
   ∃ b z m es clock kf, v = .map (some b) /\ μ id = some (some (b, z, m)) /\ q < zbv /\ w.heap[b]? = some (.map es clock) /\ es.size = l.length /\ zd0 .s (ylr l) es clock kf /\ zin l /\ ∀ (i : Nat) e, es[i]? = some e -> R w.heap D (pm q μ) (yqo q sz l (kf i)) e.val := by
 cases r with
 | mp _ b z m hμ =>
   obtain ⟨h0, es, clock, kf, h1, h2, h3, h4, h5⟩ := h.obs id _ _ hg hμ
   exact ⟨b, z, m, es, clock, kf, rfl, hμ, h0, h1, h2, h3, h4, h5⟩
theorem zzs (hT : zbd P T) {x : Operand} {t : Nat} {r : List Nat} {ts : Array TypeId} (hts : ts.toList = t :: r) (e : o.op = .call { callee := .builtin .len, args := #[x], argTypes := ts }) {vals : List AV}
   (hv : Ops w.heap D μ a [x] vals) {ob : Nat -> Option Ob} (hob : ∀ id z, ob id = some z -> g id = some z) {id q sz : Nat} {l : List (List UInt8 × Nat)} (hm : yeg ob vals = some (id, q, sz, l)) :
   zbw P base M W nt f g c o a w (ymn T std t l vals) := by
 obtain ⟨r, rfl, hg⟩ := znx hm
 match r, hv with
 | [], ⟨hv, _⟩ =>
   obtain ⟨b, z, m, es, clock, kf, hu, hμ, _, hb, hn, -⟩ := zo4 h (hob _ _ hg) hv
   unfold ymn
   simp only
   split
   · rename_i y hi
     obtain ⟨kt, et⟩ := y
     have ok := zgh hT hi
     have h0 : ts[0]? = some t := by rw [<- Array.getElem?_toList, hts]; rfl
     refine za0 h hd (u := .int .i64 l.length) ?_ (.int _ _)
     unfold execOp
     rw [e]
     simp [resolve, invoke, builtin, hu, Builtin.len_, h0, run_underlying ok, MapKept.run_getObj_map hb, Result.andThen, hn]
     rfl
   · trivial
theorem zw8 (hT : zbd P T) {t : TypeId} {x y : Operand} {ok : Bool} (e : o.op = .lookup t x y ok) {vals : List AV} (hv : Ops w.heap D μ a [x, y] vals) {ob : Nat -> Option Ob} (hob : ∀ id z, ob id = some z -> g id = some z)
   {id q sz : Nat} {l : List (List UInt8 × Nat)} (hm : yeg ob vals = some (id, q, sz, l)) : zbw P base M W nt f g c o a w (ydl T std t ok q sz l vals) := by
 obtain ⟨r, rfl, hg⟩ := znx hm
 match r, hv with
 | [k], ⟨hv, hk, _⟩ =>
   obtain ⟨b, z0, m, es, clock, kf, hu', hμ, hq, hb, hn, hks, hri, hr⟩ := zo4 h (hob _ _ hg) hv
   unfold ydl
   split
   · rename_i _ k' he
     simp only [List.cons.injEq, and_true] at he
     obtain ⟨_, rfl⟩ := he
     split
     · rename_i kt et hke
       have hu := zgh hT hke
       split
       · rename_i pe hkk hpt
         obtain ⟨hkS, hp⟩ := kkS hkk
         obtain ⟨hpt1, hz⟩ := yam hT hpt
         rw [<- hkS] at hks
         have hkey : zn2 (zdp T kt) (a.eval y) (.s k') := zoa (x := .str k') (by rw [hkS]; rfl) hk
         obtain ⟨f1, f2, f3⟩ := ze0 hT hks hkey hp w
         have fin : ∀ (u : Value), (Instr.lookup t (a.eval x) (a.eval y) ok).run P w = .ok (cond ok (.tuple #[u, .bool (zc8 l k')]) u) w -> R w.heap D μ (.aep (zc8 l k') q (zds l k') sz 0 0) u ->
             Adv P base M W nt f g c o a w (cond ok (.tup [.aep (L2 std zc8 l k') q (L2 std zds l k') sz 0 0, .bool (L2 std zc8 l k')]) (.aep (L2 std zc8 l k') q (L2 std zds l k') sz 0 0)) [] [] := by
           intro u hrun ru
           cases ok with
           | true =>
             refine za0 h hd (u := .tuple #[u, .bool (zc8 l k')]) ?_ (.tup _ _ rfl (fun i x' v hx hv => ?_))
             · unfold execOp
               rw [e]
               simp [hrun]
             · match i with
               | 0 => simp at hx hv; subst hx; subst hv; exact ru
               | 1 => simp at hx hv; subst hx; subst hv; exact .bool _
               | i + 2 => simp at hx
           | false =>
             refine za0 h hd (u := u) ?_ ru
             unfold execOp
             rw [e]
             simp [hrun]
         rcases f3 with ⟨g1, g2, _⟩ | ⟨j, x', g1, g2, g3, g4, g5⟩
         · have g1 : zc8 l k' = false := g1
           refine fin (.pointer none) ?_ (by rw [g1]; exact .aepn _ _ _ _ _)
           rw [hu', g1]
           unfold Instr.lookup
           simp only [Sem.run_bind, run_underlying hu, Result.andThen_ok, MapKept.run_getObj_map hb, f1, g2, hz, Sem.run_pure]
           cases ok <;> rfl
         · have g1 : zc8 l k' = true := g1
           have ry := hr j x' g3
           rw [g2] at ry
           refine fin x'.val ?_ (by rw [g1]; exact R.aep_of ry.unpm)
           rw [hu', g1]
           unfold Instr.lookup
           simp only [Sem.run_bind, run_underlying hu, Result.andThen_ok, MapKept.run_getObj_map hb, f1, g5, Sem.run_pure]
           cases ok <;> rfl
       · trivial
     · trivial
   · trivial
 | [], ⟨_, hv⟩ => exact hv.elim
theorem zzl (hT : zbd P T) {t : TypeId} {x y v : Operand} (e : o.op = .mapUpdate t x y v) {vals : List AV} (hv : Ops w.heap D μ a [x, y, v] vals) {ob : Nat -> Option Ob} (hob : ∀ id z, ob id = some z -> g id = some z) {ice : Nat -> Bool} (hice : ∀ id, ice id = false -> c id = false)
   {id q sz : Nat} {l : List (List UInt8 × Nat)} (hm : yeg ob vals = some (id, q, sz, l)) : zbw P base M W nt f g c o a w (ymi T std t ice id q sz l vals) := by
 obtain ⟨r, rfl, hg⟩ := znx hm
 have hg := hob _ _ hg
 match r, hv with
 | [k, val'], ⟨hm, hk, hx, _⟩ =>
   obtain ⟨b, z0, m, es, clock, kf, hum, hμ, hq, hb, hn, hks, hri, hr⟩ := zo4 h hg hm
   unfold ymi
   split
   · rename_i _ k' v' he
     simp only [List.cons.injEq, and_true] at he
     obtain ⟨_, rfl, rfl⟩ := he
     split
     · rename_i kt et hke
       have hu := zgh hT hke
       split
       · rename_i hic hkk
         have hic := hice _ hic
         obtain ⟨hkS, hp⟩ := kkS hkk
         rw [<- hkS] at hks
         have hkey : zn2 (zdp T kt) (a.eval y) (.s k') := zoa (x := .str k') (by rw [hkS]; rfl) hk
         have main : ∀ j, R w.heap D μ (.aer q j sz 0 0) (a.eval v) -> Adv P base M W nt f g c o a w .dead [(id, .mapp q sz (L3 std zgu l k' j))] [] := by
           intro j rv
           have rv : R w.heap D (pm q μ) (.aer q j sz 0 0) (a.eval v) := by
             generalize a.eval v = u at rv
             cases rv with
             | aer _ _ _ _ _ bb zz mm hmm hii =>
               obtain ⟨m1, m2, _⟩ := ze6 hq j
               exact .aer _ _ _ _ _ bb zz mm (by unfold pm; rw [if_pos ⟨m1, m2⟩]; exact hmm) hii
           obtain ⟨es', clock', kf', hrun, hn', hks', hr'⟩ := yg7 hT hu hb hks hkey hp (a.eval v)
           have hblt : b < w.heap.size := (Array.getElem?_eq_some_iff.1 hb).1
           have run : (execOp a.eval o).run P w = .ok .skip { w with heap := w.heap.setIfInBounds b (.map es' clock') } := by
             unfold execOp
             rw [e]
             simp [hum, hrun]
           intro K Q hK
           unfold Oper.wp
           rw [run]
           have h1 := h.turn (ob' := .mapp q sz (zgu l k' j)) (w' := { w with heap := w.heap.setIfInBounds b (.map es' clock') }) hμ hg (by simp) trivial hic rfl rfl rfl (by simp) (fun k' hk' => by simp [Ne.symm hk'])
             (fun hD => ⟨hq, es', clock', kf', by simp [hblt], by rw [hn', hn, zu8 hri]; rfl, (by
               rw [hkS] at hks'
               refine ⟨fun i x' hx' => ?_, fun k2 hk2 => ?_, hks'.st⟩
               · obtain ⟨a1, a2⟩ := hks'.key i x' hx'
                 refine ⟨a1, ?_⟩
                 obtain ⟨s, s1, s2⟩ := a1
                 rw [s2] at a2 |-
                 show zc8 (zgu l k' j) s.data.toList = true
                 rw [zo0]
                 simpa [ylr] using a2
               · cases k2 with
                 | s k2 =>
                   have hk2 : zc8 (zgu l k' j) k2 = true := hk2
                   rw [zo0] at hk2
                   exact hks'.all (.s k2) (by simpa [ylr] using hk2)
                 | i _ => exact (by cases hk2)
                 | a _ => exact (by cases hk2)), zpz hri, fun i x' hx' => by
               obtain ⟨a1, a2⟩ := hks'.key i x' hx'
               rw [hkS] at a1
               obtain ⟨s, s1, s2⟩ := a1
               have hrr : R w.heap D (pm q μ) (yqo q sz (zgu l k' j) (kf' i)) x'.val := by
                 rcases hr' i x' hx' with ⟨q1, q2⟩ | ⟨q1, jj, e0, q2, q3, q4⟩
                 · rw [q2, q1]
                   show R w.heap D (pm q μ) (.aer q (zds (zgu l k' j) k') sz 0 0) (a.eval v)
                   rw [znw, if_pos rfl]; exact rv
                 · have := hr jj e0 q2
                   rw [q3, s2] at this
                   rw [s2] at q1
                   rw [q4, s2]
                   show R w.heap D (pm q μ) (.aer q (zds (zgu l k' j) s.data.toList) sz 0 0) e0.val
                   rw [znw, if_neg (fun e => q1 (by rw [e]))]; exact this
               exact hrr.mono hD (fun _ h => h) (fun _ _ h => h)⟩)
           exact hK _ _ ⟨_, _, h1.put hd (.dead _)⟩
         split
         · split
           · rename_i e1 e2
             obtain rfl := za1 e1
             obtain rfl := za1 e2
             exact main _ hx
           · trivial
         · split
           · rename_i e1 e2
             obtain rfl := za1 e1
             obtain rfl := za1 e2
             intro hc
             subst hc
             exact main _ hx.aer_of
           · trivial
         · trivial
       · trivial
     · trivial
   · trivial
 | [], ⟨_, hv⟩ => exact hv.elim
 | [_], ⟨_, _, hv⟩ => exact hv.elim
theorem zw0 (hT : zbd P T) {x y : Operand} {t t' : Nat} {ts : Array TypeId} (hts : ts.toList = [t, t']) (e : o.op = .call { callee := .builtin .delete, args := #[x, y], argTypes := ts }) {vals : List AV} (hv : Ops w.heap D μ a [x, y] vals) {ob : Nat -> Option Ob} (hob : ∀ id z, ob id = some z -> g id = some z) {ice : Nat -> Bool} (hice : ∀ id, ice id = false -> c id = false)
   {id q sz : Nat} {l : List (List UInt8 × Nat)} (hm : yeg ob vals = some (id, q, sz, l)) : zbw P base M W nt f g c o a w (zqx T std t ice id q sz l vals) := by
 have hts' : ts = #[t, t'] := by apply Array.ext'; simpa using hts
 subst hts'
 obtain ⟨r, rfl, hg⟩ := znx hm
 have hg := hob _ _ hg
 match r, hv with
 | [k], ⟨hm, hk, _⟩ =>
   obtain ⟨b, z0, m, es, clock, kf, hum, hμ, hq, hb, hn, hks, hri, hr⟩ := zo4 h hg hm
   unfold zqx
   split
   · rename_i _ k' he
     simp only [List.cons.injEq, and_true] at he
     obtain ⟨_, rfl⟩ := he
     split
     · rename_i kt et hke
       have hu := zgh hT hke
       split
       · rename_i hic hkk
         have hic := hice _ hic
         obtain ⟨hkS, hp⟩ := kkS hkk
         rw [<- hkS] at hks
         have hkey : zn2 (zdp T kt) (a.eval y) (.s k') := zoa (x := .str k') (by rw [hkS]; rfl) hk
         obtain ⟨es', kf', hrun, hn', hks', hr'⟩ := ygf (t' := t') (ot := o.type) hT hu hb hks hkey hp
         have hblt : b < w.heap.size := (Array.getElem?_eq_some_iff.1 hb).1
         have run : (execOp a.eval o).run P w = .ok (.value (.tuple #[])) { w with heap := w.heap.setIfInBounds b (.map es' clock) } := by
           unfold execOp
           rw [e]
           simp [resolve, invoke, builtin, hum, hrun]
         intro K Q hK
         unfold Oper.wp
         rw [run]
         have h1 := h.turn (ob' := .mapp q sz (ziy l k')) (w' := { w with heap := w.heap.setIfInBounds b (.map es' clock) }) hμ hg (by simp) trivial hic rfl rfl rfl (by simp) (fun k' hk' => by simp [Ne.symm hk'])
           (fun hD => ⟨hq, es', clock, kf', by simp [hblt], by rw [hn', hn, zuh]; rfl, (by
             rw [hkS] at hks'
             refine ⟨fun i x' hx' => ?_, fun k2 hk2 => ?_, hks'.st⟩
             · obtain ⟨a1, a2⟩ := hks'.key i x' hx'
               refine ⟨a1, ?_⟩
               obtain ⟨s, s1, s2⟩ := a1
               rw [s2] at a2 |-
               show zc8 (ziy l k') s.data.toList = true
               rw [zo1 _ hri]
               simpa [ylr] using a2
             · cases k2 with
               | s k2 =>
                 have hk2 : zc8 (ziy l k') k2 = true := hk2
                 rw [zo1 _ hri] at hk2
                 exact hks'.all (.s k2) (by simpa [ylr] using hk2)
               | i _ => exact (by cases hk2)
               | a _ => exact (by cases hk2)), ybs hri, fun i x' hx' => by
             obtain ⟨a1, a2⟩ := hks'.key i x' hx'
             rw [hkS] at a1
             obtain ⟨s, s1, s2⟩ := a1
             have hrr : R w.heap D (pm q μ) (yqo q sz (ziy l k') (kf' i)) x'.val := by
               obtain ⟨q1, jj, e0, q2, q3, q4⟩ := hr' i x' hx'
               have := hr jj e0 q2
               rw [q3, s2] at this
               rw [s2] at q1
               rw [q4, s2]
               show R w.heap D (pm q μ) (.aer q (zds (ziy l k') s.data.toList) sz 0 0) e0.val
               rw [zu5 (fun e => q1 (by rw [e]))]; exact this
             exact hrr.mono hD (fun _ h => h) (fun _ _ h => h)⟩)
         exact hK _ _ ⟨_, _, h1.put hd (.tup _ _ rfl (fun i x v hx => by simp at hx))⟩
       · trivial
     · trivial
   · trivial
 | [], ⟨_, hv⟩ => exact hv.elim
omit hd in
theorem ybu {id q sz : Nat} {l : List Nat} (hg : g id = some (.mapr q sz l)) {v : Value} (r : R w.heap D μ (.mp id) v) :
   ∃ (b z m : Nat) (es : Array MapEntry) (clock : Nat) (kf : Nat -> Nat), v = .map (some b) /\ μ id = some (some (b, z, m)) /\ q < zbv /\ w.heap[b]? = some (.map es clock) /\ (∀ (i : Nat) e, es[i]? = some e -> R w.heap D (pm q μ) (.aer q (kf i) sz 0 0) e.key /\ e.val = .bool true /\ kf i ∈ l) /\ ∀ k ∈ l, ∃ i, i < es.size /\ kf i = k := by
 cases r with
 | mp _ b z m hμ =>
   obtain ⟨h0, es, clock, kf, h1, h2, h3⟩ := h.obs id _ _ hg hμ
   exact ⟨b, z, m, es, clock, kf, rfl, hμ, h0, h1, h2, h3⟩
omit h hd in
theorem yhs (hT : zbd P T) {t : Nat} (e : ydz T t = true) : ∃ pe i, P.underlying t = some (.pointer pe) /\ P.info? pe = some i /\ i.size ≠ 0 := by
 unfold ydz at e
 split at e
 · rename_i pe hpe
   split at e
   · rename_i ti hti
     obtain ⟨i, z, i1, i2, _⟩ := (hT _ _ hti).info
     have := zan e
     exact ⟨pe, i, (yam hT hpe).1, i1, by omega⟩
   · cases e
 · cases e
omit h hd in
theorem zxb (hT : zbd P T) {t : Nat} (e : zoh T t = true) : ∀ w : World, (zeroValue t).run P w = .ok (.bool false) w := by
 unfold zoh at e
 split at e
 · rename_i hi
   intro w
   obtain ⟨z, z1, z2⟩ := (hT t _ hi).zeroR
   have r : R w.heap (fun _ => False) zar (.bool false) z := z2 w.heap (fun _ => False) zar
   cases r
   exact z1 w
 · cases e
omit hd in
theorem zv4 (hT : zbd P T) {kt q sz : Nat} {l : List Nat} {es : Array MapEntry} {kf : Nat -> Nat} (hbp : ydz T kt = true) {ob : Nat -> Option Ob} (hob : ∀ id z, ob id = some z -> g id = some z) (htb : zte ob q = true) (hq : q < zbv)
   (h1 : ∀ (i : Nat) e, es[i]? = some e -> R w.heap D (pm q μ) (.aer q (kf i) sz 0 0) e.key /\ e.val = .bool true /\ kf i ∈ l) (h2 : ∀ k ∈ l, ∃ i, i < es.size /\ kf i = k) {j : Nat} {v : Value} (rv : R w.heap D μ (.aer q j sz 0 0) v) :
   (∀ b, (Instr.checkKey b 10000 kt v).run P w = .ok () w) /\ (Instr.keyThatStays v v).run P w = .ok v w /\
   ((zwy l j = false /\ (Instr.findKey kt v es.toList).run P w = .ok none w) \/ ∃ i e, zwy l j = true /\ es[i]? = some e /\ e.key = v /\ kf i = j /\ (Instr.findKey kt v es.toList).run P w = .ok (some (i, e.val)) w) := by
 obtain ⟨pe, inf, hu, hinf, hsz⟩ := yhs hT hbp
 unfold zte at htb
 split at htb
 rotate_left
 · cases htb
 rename_i ty szt n len get htab
 have htab := hob _ _ htab
 have hszt := zan htb
 have rowOfK : ∀ k v, R w.heap D μ (.aer q k sz 0 0) v -> ∃ b z m ca ta fa, v = .pointer (some ⟨b, 0, none⟩) /\ μ (mid q k) = some (some (b, z, m)) /\ w.heap[b]? = some (.cells ca ta fa) /\ zu3 (ca.size + 1) fa /\ 0 < ca.size := by
   intro k v r
   cases r with
   | aer _ _ _ _ _ b z m hm hi =>
     obtain ⟨_, hm', ca, ta, fa, c1, c2, c3, c4, _⟩ := zk2 h htab hm
     refine ⟨b, z, m, ca, ta, fa, by simp, hm, c1, ?_, ?_⟩
     · rw [c2]; exact c3.2.2.2 hszt
     · rw [c2]
       have : 1 * szt <= len k * szt := Nat.mul_le_mul_right _ (by omega)
       omega
 obtain ⟨b, z, m, ca, ta, fa, rfl, hm, hb, hf, hz⟩ := rowOfK j v rv
 have eqv : ∀ (i : Nat) e, es[i]? = some e -> (Op.equal kt (.pointer (some ⟨b, 0, none⟩)) e.key).run P w = .ok (decide (kf i = j)) w /\ (kf i = j -> e.key = .pointer (some ⟨b, 0, none⟩)) := by
   intro i e he
   obtain ⟨r1, _, _⟩ := h1 i e he
   obtain ⟨b', z', m', ca', ta', fa', e1, hm', hb', hf', hz'⟩ := rowOfK _ _ r1.unpm
   rw [e1]
   have hs := yfj (P := P) (w := w) (a := ⟨b, 0, none⟩) (b := ⟨b', 0, none⟩) hb hb' hf hf' (Nat.zero_le _) (Nat.zero_le _) hz hz'
   have hbb : (b = b') ↔ kf i = j := by
     constructor
     · intro e2
       subst e2
       have hmem : ∀ k y, μ (mid q k) = some (some y) -> ∃ o, gx g (mid q k) = some o /\ o ≠ .gone := fun k y hk => by
         have hx := h.tbs.mem htab (k := k)
         have hk2 : k < n := by
           rcases Nat.lt_or_ge k n with h2 | h2
           · exact h2
           · rw [if_neg (by omega)] at hx
             rw [(h.domx _).2 hx] at hk
             cases hk
         rw [if_pos hk2] at hx
         exact ⟨_, hx, by simp⟩
       obtain ⟨o1, p1, p2⟩ := hmem _ _ hm
       obtain ⟨o2, p3, p4⟩ := hmem _ _ hm'
       have := h.injx _ _ b (z, m) (z', m') o1 o2 hm hm' p1 p3 p2 p4
       have h3 := congrArg zp1 this
       rw [(ze6 hq _).2.2, (ze6 hq _).2.2] at h3
       exact h3.symm
     · rintro rfl
       rw [hm] at hm'
       cases hm'; rfl
   refine ⟨?_, fun hk => by rw [<- hbb.2 hk]⟩
   rw [zam, Op.equalIn]
   have hd : decide ((⟨b, 0, none⟩ : Addr) = ⟨b', 0, none⟩) = decide (kf i = j) := by
     rw [decide_eq_decide]
     simp only [Addr.mk.injEq, and_true]
     exact hbb
   rw [hd] at hs
   simp [run_underlying hu, sizeOf, typeInfo, hinf, hsz, hs]
 have ask : ∀ (L : List MapEntry) (i0 : Nat), (∀ (i : Nat) e, L[i]? = some e -> es[i0 + i]? = some e) ->
     (∀ (i : Nat), i < L.length -> ¬ kf (i0 + i) = j) /\ (Instr.findAsking kt (.pointer (some ⟨b, 0, none⟩)) L i0).run P w = .ok none w \/ ∃ (i : Nat) (e : MapEntry), L[i]? = some e /\ kf (i0 + i) = j /\ (Instr.findAsking kt (.pointer (some ⟨b, 0, none⟩)) L i0).run P w = .ok (some (i0 + i, e.val)) w := by
   intro L
   induction L with
   | nil => intro i0 _; exact .inl ⟨fun i hi => by simp at hi, rfl⟩
   | cons x L ih =>
     intro i0 hL
     obtain ⟨q1, q2⟩ := eqv i0 x (hL 0 x rfl)
     by_cases e : kf i0 = j
     · refine .inr ⟨0, x, rfl, e, ?_⟩
       unfold Instr.findAsking
       simp [q1, e, Result.andThen]
     · rcases ih (i0 + 1) (fun i e he => by rw [Nat.add_assoc, Nat.add_comm 1 i]; exact hL (i + 1) e (by simpa using he)) with ⟨a1, a2⟩ | ⟨i, e', a1, a2, a3⟩
       · refine .inl ⟨fun i hi => ?_, ?_⟩
         · cases i with
           | zero => exact e
           | succ i => rw [show i0 + (i + 1) = i0 + 1 + i by omega]; exact a1 i (by simpa using hi)
         · unfold Instr.findAsking
           simp [q1, e, Result.andThen, a2]
       · refine .inr ⟨i + 1, e', by simpa using a1, by rw [show i0 + (i + 1) = i0 + 1 + i by omega]; exact a2, ?_⟩
         unfold Instr.findAsking
         simp [q1, e, Result.andThen, a3]
         omega
 have hfk : (Instr.findKey kt (.pointer (some ⟨b, 0, none⟩)) es.toList).run P w = (Instr.findAsking kt (.pointer (some ⟨b, 0, none⟩)) es.toList 0).run P w := by
   unfold Instr.findKey
   simp only [Sem.run_bind, run_underlying hu, Result.andThen_ok]
   cases es.toList with
   | nil => simp [Instr.findNow, Instr.findAsking]
   | cons x L => simp [Instr.findNow, Instr.sameNow]
 refine ⟨fun bb => ?_, ?_, ?_⟩
 · unfold Instr.checkKey
   simp only [Sem.run_bind, run_underlying hu, Result.andThen]
   rfl
 · unfold Instr.keyThatStays
   rw [if_pos (by unfold Instr.sameBits; simp)]
   rfl
 · rw [hfk]
   rcases ask es.toList 0 (fun i e he => by rw [Nat.zero_add]; simpa using he) with ⟨a1, a2⟩ | ⟨i, e, a1, a2, a3⟩
   · refine .inl ⟨?_, a2⟩
     rw [<- Bool.not_eq_true, zny]
     intro hj
     obtain ⟨i, hi, hk⟩ := h2 j hj
     exact a1 i (by simpa using hi) (by rw [Nat.zero_add]; exact hk)
   · rw [Nat.zero_add] at a2 a3
     have a1 : es[i]? = some e := by simpa using a1
     exact .inr ⟨i, e, by rw [zny, <- a2]; exact (h1 i e a1).2.2, a1, (eqv i e a1).2 a2, a2, a3⟩
theorem zw6 (hT : zbd P T) {t : TypeId} {x y : Operand} (e : o.op = .lookup t x y false) {vals : List AV} (hv : Ops w.heap D μ a [x, y] vals) {ob : Nat -> Option Ob} (hob : ∀ id z, ob id = some z -> g id = some z)
   {id q sz : Nat} {l : List Nat} (hm : ynb ob vals = some (id, q, sz, l)) : zbw P base M W nt f g c o a w (ydj T std t q sz l ob vals) := by
 obtain ⟨r, rfl, hg⟩ := ybk hm
 match r, hv with
 | [k], ⟨hv, hk, _⟩ =>
   obtain ⟨b, z0, m, es, clock, kf, hu', hμ, hq, hb, h1, h2⟩ := ybu h (hob _ _ hg) hv
   unfold ydj
   simp only
   split
   · rename_i kt et hke
     have hu := zgh hT hke
     split
     · rename_i hbt hbp
       simp only [Bool.and_eq_true] at hbp
       have hz := zxb hT hbt
       have main : ∀ j, R w.heap D μ (.aer q j sz 0 0) (a.eval y) -> Adv P base M W nt f g c o a w (.bool (L2 std zwy l j)) [] [] := by
         intro j rv
         obtain ⟨f1, f2, f3⟩ := zv4 h hT hbp.1 hob hbp.2 hq h1 h2 rv
         refine za0 h hd (u := .bool (zwy l j)) ?_ (.bool _)
         unfold execOp
         rw [e]
         rcases f3 with ⟨g1, g2⟩ | ⟨i, x', g1, g2, g3, g4, g5⟩
         · have hrun : (Instr.lookup t (a.eval x) (a.eval y) false).run P w = .ok (.bool false) w := by
             rw [hu']
             unfold Instr.lookup
             simp only [Sem.run_bind, run_underlying hu, Result.andThen_ok, MapKept.run_getObj_map hb, f1, g2, hz, Sem.run_pure]
             rfl
           simp [hrun, g1]
         · have hrun : (Instr.lookup t (a.eval x) (a.eval y) false).run P w = .ok (.bool true) w := by
             rw [hu']
             unfold Instr.lookup
             simp only [Sem.run_bind, run_underlying hu, Result.andThen_ok, MapKept.run_getObj_map hb, f1, g5, Sem.run_pure]
             rw [(h1 i x' g2).2.1]
             rfl
           simp [hrun, g1]
       split
       · split
         · rename_i e1 e2
           obtain rfl := za1 e1
           obtain rfl := za1 e2
           exact main _ hk
         · trivial
       · split
         · rename_i e1 e2
           obtain rfl := za1 e1
           obtain rfl := za1 e2
           intro hc
           subst hc
           exact main _ hk.aer_of
         · trivial
       · trivial
     · trivial
   · trivial
 | [], ⟨_, hv⟩ => exact hv.elim
theorem zzj (hT : zbd P T) {t : TypeId} {x y v : Operand} (e : o.op = .mapUpdate t x y v) {vals : List AV} (hv : Ops w.heap D μ a [x, y, v] vals) {ob : Nat -> Option Ob} (hob : ∀ id z, ob id = some z -> g id = some z) {ice : Nat -> Bool} (hice : ∀ id, ice id = false -> c id = false)
   {id q sz : Nat} {l : List Nat} (hm : ynb ob vals = some (id, q, sz, l)) : zbw P base M W nt f g c o a w (ymg T std t ice id q sz l ob vals) := by
 obtain ⟨r, rfl, hg⟩ := ybk hm
 have hg := hob _ _ hg
 match r, hv with
 | [k, val'], ⟨hm, hk, hx, _⟩ =>
   obtain ⟨b, z0, m, es, clock, kf, hum, hμ, hq, hb, h1, h2⟩ := ybu h hg hm
   unfold ymg
   split
   · rename_i _ k' he
     simp only [List.cons.injEq, and_true] at he
     obtain ⟨_, rfl, rfl⟩ := he
     split
     · rename_i kt et hke
       have hu := zgh hT hke
       split
       · rename_i hbt hbp hic
         simp only [Bool.and_eq_true] at hbp
         have hic := hice _ hic
         have hvv : a.eval v = .bool true := by
           generalize a.eval v = u at hx
           cases hx; rfl
         have main : ∀ j, R w.heap D μ (.aer q j sz 0 0) (a.eval y) -> Adv P base M W nt f g c o a w .dead [(id, .mapr q sz (L2 std yei l j))] [] := by
           intro j rv
           obtain ⟨f1, f2, f3⟩ := zv4 h hT hbp.1 hob hbp.2 hq h1 h2 rv
           have rv : R w.heap D (pm q μ) (.aer q j sz 0 0) (a.eval y) := by
             generalize a.eval y = u at rv
             cases rv with
             | aer _ _ _ _ _ bb zz mm hmm hii =>
               obtain ⟨m1, m2, _⟩ := ze6 hq j
               exact .aer _ _ _ _ _ bb zz mm (by unfold pm; rw [if_pos ⟨m1, m2⟩]; exact hmm) hii
           obtain ⟨es', clock', kf', hrun, h1', h2'⟩ : ∃ (es' : Array MapEntry) (clock' : Nat) (kf' : Nat -> Nat), (Instr.mapUpdate t (.map (some b)) (a.eval y) (.bool true)).run P w = .ok () { w with heap := w.heap.setIfInBounds b (.map es' clock') } /\
               (∀ (i : Nat) e, es'[i]? = some e -> R w.heap D (pm q μ) (.aer q (kf' i) sz 0 0) e.key /\ e.val = .bool true /\ kf' i ∈ yei l j) /\ ∀ k ∈ yei l j, ∃ i, i < es'.size /\ kf' i = k := by
             rcases f3 with ⟨g1, g2⟩ | ⟨i, x', g1, g2, g3, g4, g5⟩
             · refine ⟨es.push { key := a.eval y, val := .bool true, born := clock }, clock + 1, fun i => if i = es.size then j else kf i, ?_, fun i e he => ?_, fun k hk => ?_⟩
               · simp [Instr.mapUpdate, run_underlying hu, MapKept.run_getObj_map hb, f1, g2, MapKept.run_setObj_map _ hb, Result.andThen]
               · rw [Array.getElem?_push] at he
                 split at he
                 · rename_i hi; cases he; simp only [if_pos hi]; exact ⟨rv, (by first | rfl | trivial), zgi.2 (.inl rfl)⟩
                 · rename_i hi; simp only [if_neg hi]
                   obtain ⟨a1, a2, a3⟩ := h1 i e he
                   exact ⟨a1, a2, zgi.2 (.inr a3)⟩
               · rcases zgi.1 hk with rfl | hk
                 · exact ⟨es.size, by simp, by simp⟩
                 · obtain ⟨i, i1, i2⟩ := h2 k hk
                   exact ⟨i, by simp; omega, by show (if i = es.size then j else kf i) = k; rw [if_neg (by omega)]; exact i2⟩
             · have hlt : i < es.size := (Array.getElem?_eq_some_iff.1 g2).1
               refine ⟨es.modify i fun e => { e with key := a.eval y, val := .bool true }, clock, kf, ?_, fun i2 e he => ?_, fun k hk => ?_⟩
               · simp [Instr.mapUpdate, run_underlying hu, MapKept.run_getObj_map hb, f1, f2, g2, g3, g5, MapKept.run_setObj_map _ hb, Result.andThen]
               · rw [Array.getElem?_modify] at he
                 split at he
                 · rename_i hi
                   subst hi
                   rw [g2] at he
                   cases he
                   rw [g4]
                   exact ⟨rv, rfl, zgi.2 (.inl rfl)⟩
                 · obtain ⟨a1, a2, a3⟩ := h1 i2 e he
                   exact ⟨a1, a2, zgi.2 (.inr a3)⟩
               · rcases zgi.1 hk with rfl | hk
                 · exact ⟨i, by simpa using hlt, g4⟩
                 · obtain ⟨i2, i1, i3⟩ := h2 k hk
                   exact ⟨i2, by simpa using i1, i3⟩
           have hblt : b < w.heap.size := (Array.getElem?_eq_some_iff.1 hb).1
           have run : (execOp a.eval o).run P w = .ok .skip { w with heap := w.heap.setIfInBounds b (.map es' clock') } := by
             unfold execOp
             rw [e]
             simp [hum, hvv, hrun]
           intro K Q hK
           unfold Oper.wp
           rw [run]
           have h1 := h.turn (ob' := .mapr q sz (yei l j)) (w' := { w with heap := w.heap.setIfInBounds b (.map es' clock') }) hμ hg (by simp) trivial hic rfl rfl rfl (by simp) (fun k' hk' => by simp [Ne.symm hk'])
             (fun hD => ⟨hq, es', clock', kf', by simp [hblt], fun i x' hx' => by
               obtain ⟨a1, a2, a3⟩ := h1' i x' hx'
               exact ⟨a1.mono hD (fun _ h => h) (fun _ _ h => h), a2, a3⟩, h2'⟩)
           exact hK _ _ ⟨_, _, h1.put hd (.dead _)⟩
         split
         · split
           · rename_i e1 e2
             obtain rfl := za1 e1
             obtain rfl := za1 e2
             exact main _ hk
           · trivial
         · split
           · rename_i e1 e2
             obtain rfl := za1 e1
             obtain rfl := za1 e2
             intro hc
             subst hc
             exact main _ hk.aer_of
           · trivial
         · trivial
       · trivial
     · trivial
   · trivial
 | [], ⟨_, hv⟩ => exact hv.elim
 | [_], ⟨_, _, hv⟩ => exact hv.elim
end
section
variable {P : Program} {T : TT} {base : Nat} {M : Two} {W : World} {nt : Nat} {f : Nat -> Option AV} {g : Nat -> Option Ob} {c : Nat -> Bool} {a : Act} {w : World} {D : Nat -> Prop} {μ : Mu} {o : Oper}
variable (h : Sim base M W nt f g c a w D μ) (hd : ∀ d, o.dst = some d -> d < nt)
omit h hd in
theorem zrr (hD : ∀ b, D b -> b < w.heap.size) {q sz n : Nat} {get : Nat -> Nat -> AV} {C : Array Value} {t : TypeId} (hsz : n * sz <= C.size) (h1 : ones C) (r : ∀ i j, i < n -> j < sz -> ∃ v, C[i * sz + j]? = some v /\ one v /\ R w.heap D (pm q μ) (get i j) v) :
   zdg (w.alloc (.cells C t)).heap D μ (.rowp q t sz n get) (some (w.heap.size, C.size, n)) := by
 refine ⟨rfl, C, t, (0, 0), heap_alloc_new _ _, rfl, ⟨zer _, rfl, h1, fun _ => zer _⟩, hsz, fun i j hi hj => ?_⟩
 obtain ⟨v, v1, v2, v3⟩ := r i j hi hj
 exact ⟨v, v1, v2, v3.mono (fun b hb => Below.heap_alloc _ _ _ (hD b hb)) (fun _ h => h) (fun _ _ h => h)⟩
include h hd
theorem zvx (hT : zbd P T) {t n : Nat} {ps : Array (Nat × Operand)} (e : o.op = .buildSlice t n ps) {vals : List AV} (hv : Ops w.heap D μ a (ps.toList.map Prod.snd) vals) {ob : Nat -> Option Ob} (hob : ∀ id z, ob id = some z -> g id = some z) :
   zbw P base M W nt f g c o a w (yd9 T std o.dst t n ps.toList vals ob (zcd g o.op o.dst)) := by
 unfold yd9
 split
 · rename_i d hc
   obtain ⟨hn, hdst⟩ := zbg hc
   have hnew : g d = none := by
     simp only [zcd, e, zbz, hdst] at hn
     cases hg : g d with
     | none => rfl
     | some _ => rw [hg] at hn; cases hn
   split
   · rename_i i hi
     split
     · rename_i e' esz eb hk
       have ok := (hT t i hi).k
       rw [hk] at ok
       obtain ⟨ok1, ok2⟩ := ok
       obtain ⟨ei', hei', hes⟩ := Option.map_eq_some_iff.1 ok2
       simp only [Prod.mk.injEq] at hes
       split
       · rename_i ei hei
         have oke := hT e' ei hei
         obtain ⟨ii, z, i1, i2, i3, i4, i5, i6⟩ := oke.info
         rw [hei'] at i1
         cases i1
         split
         · rename_i q hq
           cases hle : (zbh esz 16777216 && zb3 0 esz) with
           | false => rw [hle] at hq; cases hq
           | true =>
             rw [Bool.and_eq_true] at hle
             have hpos := zan hle.2
             have hle := zb2 hle.1
             split
             · rename_i cs0
               split
               · rename_i cs1 hput
                 split
                 · rename_i cs hcs
                   obtain ⟨l1, l2, l3⟩ := znm h hob hput (ids := zf1 cs0) (fun _ h => h)
                   have h' := h.freeze (zf1 cs0) l2
                   obtain ⟨p0, hp0, rv⟩ : ∃ p0, ps.toList = [p0] /\ R w.heap D μ (.agg cs0) (a.eval p0.2) := by
                     generalize ps.toList = qs at hv
                     match qs, hv with
                     | [p0], hv => exact ⟨p0, rfl, hv.1⟩
                     | [], hv => exact hv.elim
                     | _ :: _ :: _, hv => exact hv.2.elim
                   have hp : zxy w.heap (DF D μ (zf1 cs0)) (pm q μ) a ps.toList [.agg cs1] := by
                     rw [hp0]
                     refine ⟨?_, trivial⟩
                     obtain ⟨us, he, o1, s1, hr⟩ := rv.inv_agg
                     rw [he]
                     refine .agg _ _ (by rw [l1]; exact s1) o1 fun i x v hx hv => ?_
                     have hlt : i < cs0.length := by rw [<- l1]; exact (List.getElem?_eq_some_iff.1 hx).1
                     exact l3 i _ x v (List.getElem?_eq_getElem hlt) hx (hr i _ v (List.getElem?_eq_getElem hlt) hv)
                   have hsz : z.cells.size = esz := by rw [i5, <- i2, hes.1]
                   have hzl : ei.zero.length = esz := by rw [(i6 w.heap D μ).1, hsz]
                   obtain ⟨C0, hC0⟩ : ∃ C0, C0 = (Array.range (1 * esz)).map (fun q => z.cells[q % z.cells.size]!) := ⟨_, rfl⟩
                   have hC0s : C0.size = 1 * esz := by rw [hC0]; simp
                   have hget : ∀ q, q < 1 * esz -> C0[q]? = some (z.cells.getD (q % esz) undef) /\ q % esz < z.cells.size /\ (zd3 ei.zero 1)[q]? = ei.zero[q % esz]? := by
                     intro q hq
                     have h0 : 0 < esz := by
                       rcases Nat.eq_zero_or_pos esz with h0 | h0
                       · rw [h0] at hq; omega
                       · exact h0
                     have h1 := Nat.mod_lt q h0
                     refine ⟨?_, by omega, ?_⟩
                     · rw [hC0]
                       have h2 : q % esz < z.cells.size := by omega
                       simp [show q < esz by omega, hsz, h2]
                       rw [getElem!_pos z.cells _ h2]
                       simp [h2]
                     · have := zfe ei.zero 1 (q / esz) (q % esz) (Nat.div_lt_of_lt_mul (by rw [Nat.mul_comm]; exact hq)) (by omega)
                       rw [hzl] at this
                       rw [<- this]
                       congr 1
                       rw [Nat.mul_comm]; exact (Nat.div_add_mod q esz).symm
                   have r0 : RL w.heap (DF D μ (zf1 cs0)) (pm q μ) (zd3 ei.zero 1) C0 := by
                     refine ⟨by rw [zda, hzl, hC0s], fun q x v hx hv => ?_⟩
                     have hq : q < 1 * esz := by rw [<- hC0s]; exact (Array.getElem?_eq_some_iff.1 hv).1
                     obtain ⟨g1, g2, g3⟩ := hget q hq
                     rw [g1] at hv
                     cases hv
                     rw [g3] at hx
                     exact (i6 _ _ _).2 _ x _ hx (getD_some g2)
                   have o0 : ones C0 := by
                     intro q v hv
                     have hq : q < 1 * esz := by rw [<- hC0s]; exact (Array.getElem?_eq_some_iff.1 hv).1
                     obtain ⟨g1, g2, _⟩ := hget q hq
                     rw [g1] at hv
                     cases hv
                     exact i4 _ _ (getD_some g2)
                   obtain ⟨C', f1, f2, f3⟩ := zi6 (h := w.heap) (D := DF D μ (zf1 cs0)) (μ := pm q μ) ps.toList [.agg cs1] _ C0 cs hcs rfl hp r0 o0
                   have hCs : cs.length = 1 * esz := by
                     rw [zlb ps.toList [.agg cs1] _ cs hcs, zda, hzl]
                   have run : (execOp a.eval o).run P w = .ok (.value (.slice (some ⟨w.heap.size, 0, none⟩) 1 1)) (w.alloc (.cells C' e')) := by
                     unfold execOp
                     rw [e]
                     have hso : ∀ w', (sizeOf e').run P w' = .ok esz w' := fun w' => by simp [sizeOf, typeInfo, program, Sem.run, hei', hes.1]
                     have hzv : ∀ w', (zeroValue e').run P w' = .ok z w' := fun w' => by simp [zeroValue, typeInfo, program, Sem.run, hei', i3]
                     have hf := f1
                     rw [Nat.one_mul] at hC0 hC0s
                     have hlim : ¬ (esz > 2 ^ 24) := by omega
                     by_cases h0 : esz = 0
                     · exact absurd h0 (by omega)
                     · rw [hC0] at hf
                       simp only [Instr.buildSlice, Sem.run_bind, run_underlying ok1, Result.andThen_ok, hso, Nat.one_mul, hlim, if_false, h0, hzv]
                       simp [hf, newRow, hzv]
                   have key := zha h' hd hdst hnew C' e' (.rowp q e' esz 1 (fun _ j => zbl .dead cs j)) 1 (by simp) (zrr h'.dlt (by rw [<- f2.1, hCs]; exact Nat.le_refl _) f3 (fun i' j hi' hj => by
                       have hi0 : i' = 0 := by omega
                       subst hi0
                       have hlt : 0 * esz + j < C'.size := by rw [<- f2.1]; omega
                       have hjl : j < cs.length := by omega
                       have hx : cs[0 * esz + j]? = some (zbl .dead cs j) := by
                         rw [Nat.zero_mul, Nat.zero_add, zfh, List.getD_eq_getElem?_getD, List.getElem?_eq_getElem hjl]; rfl
                       exact ⟨_, getD_some hlt, f3 _ _ (getD_some hlt), f2.2 _ _ _ hx (getD_some hlt)⟩))
                     (v := .sl d esz 0 1) run (fun D' μ' hm => by
                       have := R.sl (h := (w.alloc (.cells C' e')).heap) (D := D') d esz 0 1 w.heap.size C'.size 1 1 hm (Nat.le_refl _) (by rw [<- f2.1, hCs]; simp) (by omega)
                       simpa using this)
                   exact key
                 · trivial
               · trivial
             · trivial
         · trivial
       · trivial
     · trivial
   · trivial
 · trivial
omit h hd in
theorem yf1 (h : Sim base M W nt f g c a w D μ) {q sx m : Nat} {ob : Nat -> Option Ob} (hob : ∀ id z, ob id = some z -> g id = some z) {x : AV} {src : Nat -> Nat -> AV} {u : Value} (e : yof ob x = some (q, sx, m, src)) (r : R w.heap D μ x u) :
   ∃ news : List Value, news.length = m * sx /\ (∀ w', w'.heap = w.heap -> (Builtin.firstCells sx m u).run P w' = .ok news.toArray w') /\ (Builtin.lenOf u).run P w = .ok m w /\
     ∀ i j, i < m -> j < sx -> ∃ v, news[i * sx + j]? = some v /\ one v /\ R w.heap D (pm q μ) (src i j) v := by
 have empty : ∀ ad cap, m = 0 -> u = .slice ad 0 cap -> ∃ news : List Value, news.length = m * sx /\ (∀ w', w'.heap = w.heap -> (Builtin.firstCells sx m u).run P w' = .ok news.toArray w') /\ (Builtin.lenOf u).run P w = .ok m w /\
     ∀ i j, i < m -> j < sx -> ∃ v, news[i * sx + j]? = some v /\ one v /\ R w.heap D (pm q μ) (src i j) v := by
   rintro ad cap rfl rfl
   refine ⟨[], by simp, fun w' hw => ?_, rfl, fun i j hi => by omega⟩
   cases ad with
   | none => simp [Builtin.firstCells]
   | some ad => simp [Builtin.firstCells, loadCells, loadCellsFrom]
 unfold yof at e
 split at e
 · rename_i id sz n
   split at e
   · rename_i q' ty sz' n' get hg
     have hg := hob _ _ hg
     split at e
     · rename_i hsz
       obtain rfl := za1 hsz
       cases e
       cases r with
       | slv => exact empty _ _ rfl rfl
       | sl0 => exact empty _ _ rfl rfl
       | sl _ _ _ _ b z q cap hμ hn hz ho =>
         obtain ⟨hm, C, t', fr, hh, hcs, _, hle, hrow⟩ := h.obs id _ _ hg hμ
         obtain ⟨news, n1, n2, n3⟩ := zex (P := P) (w := w) sx m b (0 * sx) cap (fun i j => C.getD (i * sx + j) undef) (fun i j h1 h2 => by
           obtain ⟨y, y1, _⟩ := hrow i j (by omega) h2
           rw [zao hh, Nat.zero_mul, Nat.zero_add]; exact getD_some (Array.getElem?_eq_some_iff.1 y1).1)
         refine ⟨news, n1, n2, rfl, fun i j hi hj => ⟨_, n3 i j hi hj, ?_⟩⟩
         obtain ⟨y, y1, y2, y3⟩ := hrow i j (by omega) hj
         rw [getD_some (Array.getElem?_eq_some_iff.1 y1).1] at y1
         cases y1
         exact ⟨y2, y3⟩
     · cases e
   · cases e
 · cases e
omit h hd in
theorem zqf {n m esz : Nat} {get src : Nat -> Nat -> AV} {h : Array Obj} {D : Nat -> Prop} {μ : Mu} {C : Nat -> Option Value} (h1 : ∀ i j, i < n -> j < esz -> ∃ v, C (i * esz + j) = some v /\ one v /\ R h D μ (get i j) v)
   (h2 : ∀ i j, i < m -> j < esz -> ∃ v, C (n * esz + (i * esz + j)) = some v /\ one v /\ R h D μ (src i j) v) :
   ∀ i j, i < n + m -> j < esz -> ∃ v, C (i * esz + j) = some v /\ one v /\ R h D μ (zci std (L2 std zb3 i n) (get i j) (src (L2 std Nat.sub i n) j)) v := by
 intro i j hi hj
 by_cases hin : i < n
 · obtain ⟨v, v1, v2, v3⟩ := h1 i j hin hj
   refine ⟨v, v1, v2, ?_⟩
   have : L2 std zb3 i n = true := by show zb3 i n = true; rw [zc7]; exact hin
   rw [this]
   exact zbq v3 _
 · obtain ⟨v, v1, v2, v3⟩ := h2 (i - n) j (by omega) hj
   refine ⟨v, ?_, v2, ?_⟩
   · rw [<- v1]
     congr 1
     rw [<- Nat.add_assoc, <- Nat.add_mul]
     congr 2
     omega
   · have e1 : L2 std zb3 i n = false := by
       show zb3 i n = false
       cases e6 : zb3 i n with
       | false => rfl
       | true => have := zan e6; omega
     have e2 : L2 std Nat.sub i n = i - n := rfl
     rw [e1, e2]
     exact zba v3 _
theorem zpg (hT : zbd P T) {x y : Operand} {ts : Array TypeId} {t t' : Nat} (hts : ts.toList = [t, t']) (e : o.op = .call { callee := .builtin .append, args := #[x, y], argTypes := ts }) {vals : List AV}
   (hv : Ops w.heap D μ a [x, y] vals) {ob : Nat -> Option Ob} (hob : ∀ id z, ob id = some z -> g id = some z) {ice : Nat -> Bool} (hice : ∀ id, ice id = false -> c id = false) {q sx m : Nat} {src : Nat -> Nat -> AV} (hrp : yof ob (zbl .dead vals 1) = some (q, sx, m, src)) :
   zbw P base M W nt f g c o a w (zju T std o.dst t t' ob ice (zcd g o.op o.dst) q sx m src vals) := by
 obtain rfl : ts = #[t, t'] := by apply Array.ext'; simpa using hts
 match vals, hv with
 | [s, v], ⟨hs, hv, _⟩ =>
   have hrp : yof ob v = some (q, sx, m, src) := hrp
   unfold zju
   split
   rotate_left
   · trivial
   rename_i id sz' off n _ he
   simp only [List.cons.injEq, and_true] at he
   obtain ⟨rfl, _⟩ := he
   split
   · rename_i d hc
     obtain ⟨hn, hdst⟩ := zbg hc
     have hnew : g d = none := by
       simp only [zcd, e, zbz, hdst] at hn
       cases hg : g d with
       | none => rfl
       | some _ => rw [hg] at hn; cases hn
     split
     · rename_i sz ag ze e' esz eb eqf p1 p2 p3 hi
       obtain ⟨ok1, ok2⟩ := (hT t _ hi).k
       obtain ⟨ei', hei', hes⟩ := Option.map_eq_some_iff.1 ok2
       simp only [Prod.mk.injEq] at hes
       obtain ⟨hes1, hes2⟩ := hes
       subst hes1; subst hes2
       split
       · rename_i hcc
         have c1 : zcj T t' = true := by cases hx : zcj T t' <;> simp_all
         have c2 : zbh 1 ei'.size = true := by cases hx : zbh 1 ei'.size <;> simp_all
         have c3 : (T.find e').isSome = true := by cases hx : (T.find e').isSome <;> simp_all
         rw [c1, c2, c3] at hcc
         simp only [cond_true] at hcc
         have c4 : zb3 0 m = true := by cases hx : zb3 0 m <;> simp_all
         rw [c4, cond_true] at hcc
         have hm0 := zan c4
         obtain rfl : sx = ei'.size := za1 hcc
         have hni := zfx hT c1
         have hsp := zb2 c2
         obtain ⟨eti, heti⟩ := Option.isSome_iff_exists.1 c3
         obtain ⟨ii, z, i1, i2, i3, i4, i5, i6⟩ := (hT e' eti heti).info
         rw [hei'] at i1
         cases i1
         have hzs : z.cells.size = ei'.size := by rw [i5, <- i2]
         obtain ⟨news, n1, n2, n3, n4⟩ := yf1 (P := P) h hob hrp hv
         have run : ∀ u w', (Builtin.append_ #[t, t'] o.type #[a.eval x, a.eval y]).run P w = .ok u w' -> (execOp a.eval o).run P w = .ok (.value u) w' := by
           intro u w' hu
           unfold execOp
           rw [e]
           simp [resolve, invoke, builtin, hu]
         have fresh : ∀ (ad : Option Addr), a.eval x = .slice ad 0 0 -> (0 + m) * ei'.bytes <= 140737488355328 -> 0 + m <= 9223372036854775807 ->
             ∀ get' : Nat -> Nat -> AV, (∀ i j v, i < m -> j < ei'.size -> R w.heap D (pm q μ) (src i j) v -> R w.heap D (pm q μ) (get' i j) v) ->
             ∀ K Q, (∀ a' w', zgq base M W nt (zjq f o.dst (.sl d ei'.size 0 m)) (zb7 g [(d, .rowp q e' ei'.size m get')]) c a' w' -> K a' w') -> o.wp P a w K Q := by
           intro ad hx hb1 hb2 get' hget K Q hK
           unfold Oper.wp
           have hfc : ∀ w', (Builtin.firstCells ei'.size 0 (.slice ad 0 0)).run P w' = .ok #[] w' := by
             intro w'
             cases ad <;> simp [Builtin.firstCells, loadCells, loadCellsFrom]
           rw [hx] at run
           have hg0 : 0 < 0 + m := by omega
           have hr := zbc (P := P) w t t' o.type e' ei' z ok1 hni hei' i3 ad 0 0 (a.eval y) m [] news (fun w' _ => hfc w') n2 n3 hg0 hb2 (growslice_fits hg0 hb1)
           rw [run _ _ hr]
           have hw : Sim base M W nt f g c a w.drew D μ := h.drew
           obtain ⟨C, hC⟩ : ∃ C, C = ([] : List Value).toArray ++ news.toArray ++ Builtin.zeroCells z.cells (grownCap w (0 + m) 0 e' - (0 + m)) := ⟨_, rfl⟩
           have hge := grownCap_ge w (0 + m) 0 e'
           have hCs : C.size = grownCap w (0 + m) 0 e' * ei'.size := by
             rw [hC]
             simp only [Array.size_append, size_zeroCells, List.size_toArray, List.length_nil, n1, hzs]
             rw [Nat.zero_add, <- Nat.add_mul]
             congr 1
             omega
           rw [<- hC]
           have hle : m * ei'.size <= C.size := by rw [hCs]; exact Nat.mul_le_mul_right _ (by omega)
           have hnew' := hw.new (hd _ hdst) hnew (.rowp q e' ei'.size m get') C e' m (by simp) (zrr hw.dlt hle (ze5 hC (fun v hv => by simp at hv) (zc6 hsp n1 (fun i j hi hj => by obtain ⟨v, v1, v2, _⟩ := n4 i j hi hj; exact ⟨v, v1, v2⟩)) (zc6 hsp (by simp [size_zeroCells, hzs]) (fun i j hi hj => ⟨_, zdw hzs hi hj, i4 _ _ (getD_some (by omega))⟩))) (fun i j hi hj => by
             obtain ⟨v, v1, v2, v3⟩ := n4 i j hi hj
             have hlt := (List.getElem?_eq_some_iff.1 v1).1
             refine ⟨v, ?_, v2, hget i j v hi hj v3⟩
             rw [hC]
             simp [Array.getElem?_append, hlt]
             exact (List.getElem?_eq_some_iff.1 v1).2))
           refine hK _ _ ⟨_, _, hnew'.put hd ?_⟩
           have := R.sl (h := (w.drew.alloc (.cells C e')).heap) (D := D) (μ := fun id => if id = d then some (some (w.drew.heap.size, C.size, m)) else μ id) d ei'.size 0 m w.heap.size C.size m (grownCap w (0 + m) 0 e') (by simp) (by omega) (by rw [hCs]; simp) (by omega)
           simpa using this
         split
         rotate_left
         · trivial
         rename_i q' ty sz'' n' get hsz hic hg
         have hic := hice _ hic
         have hg := hob _ _ hg
         obtain rfl := za1 hsz
         split
         rotate_left
         · trivial
         rename_i k1 k2 k3
         obtain rfl := za1 k1
         obtain rfl : e' = ty := (za1 k2).symm
         obtain rfl : q = q' := (za1 k3).symm
         intro hb
         have hb' : (n + m) * ei'.bytes <= 140737488355328 /\ n + m <= 9223372036854775807 := by simpa [L3, std, zbx] using hb
         obtain ⟨hb1, hb2⟩ := hb'
         have hdid : d ≠ id := by rintro rfl; rw [hnew] at hg; cases hg
         obtain ⟨jg, hjg⟩ : ∃ jg, jg = fun i j => zci std (L2 std zb3 i n) (get i j) (src (L2 std Nat.sub i n) j) := ⟨_, rfl⟩
         have finish : ∀ a' w', zgq base M W nt (zjq f o.dst (.sl d ei'.size 0 (n + m))) (zb7 g [(d, .rowp q e' ei'.size (n + m) jg)]) c a' w' -> zgq base M W nt (zjq f o.dst (.sl d ei'.size 0 (n + m))) (zb7 g [(d, .rowp q e' ei'.size (n + m) jg), (id, .gone)]) (zhd c []) a' w' := by
           rintro a' w' ⟨D', μ', hsim⟩
           have hid : zb7 g [(d, .rowp q e' ei'.size (n + m) jg)] id = some (.rowp q e' ei'.size n' get) := by
             simp [zb7, za2, zac hdid, hg]
           have := hsim.gone hid
           refine ⟨D', μ', ?_⟩
           rw [zdk]
           have e2 : zb7 (zb7 g [(d, .rowp q e' ei'.size (n + m) jg)]) [(id, .gone)] = zb7 g [(d, .rowp q e' ei'.size (n + m) jg), (id, .gone)] := by
             funext k
             simp only [zb7, za2]
             by_cases k1 : d = k
             · subst k1
               simp [za3, zac (fun x => hdid x.symm : ¬ id = d)]
             · by_cases k2 : id = k
               · subst k2; simp [za3, zac hdid]
               · simp [zac k1, zac k2]
           rw [<- e2]
           exact this
         have none0 : ∀ ad, n = 0 -> a.eval x = .slice ad 0 0 -> Adv P base M W nt f g c o a w (.sl d ei'.size 0 (L2 std Nat.add n m)) [(d, .rowp q e' ei'.size (L2 std Nat.add n m) jg), (id, .gone)] [] := by
           intro ad hn0 hu K Q hK
           have e3 : L2 std Nat.add n m = m := by show n + m = m; omega
           rw [e3] at hK
           have e4 : n + m = m := by omega
           rw [e4] at finish
           refine fresh ad hu (by rw [Nat.zero_add]; rw [e4] at hb1; exact hb1) (by omega) jg (fun i j v hi hj r => ?_) K Q (fun a' w' hsim => hK a' w' (finish a' w' hsim))
           rw [hjg]
           have e5 : L2 std zb3 i n = false := by
             show zb3 i n = false
             cases e6 : zb3 i n with
             | false => rfl
             | true => have := zan e6; omega
           have e6 : L2 std Nat.sub i n = i := by show i - n = i; omega
           simp only [e5, e6]
           exact zba r _
         have main : Adv P base M W nt f g c o a w (.sl d ei'.size 0 (L2 std Nat.add n m)) [(d, .rowp q e' ei'.size (L2 std Nat.add n m) jg), (id, .gone)] [] := by
           generalize hu : a.eval x = u at hs
           cases hs with
           | slv _ _ ad hμ => exact none0 ad rfl hu
           | sl0 _ _ _ b z m' o' hμ ho => exact none0 _ rfl hu
           | sl _ _ _ _ b z1 m' cap hμ hnc hz ho =>
             intro K Q hK
             unfold Oper.wp
             rw [hu] at run
             rw [Nat.zero_mul] at run
             rw [Nat.zero_add] at hz ho
             obtain ⟨hm', C, tt, fr, hh, hcs, hf, hle, hrow⟩ := h.obs id _ _ hg hμ
             subst hm'
             obtain ⟨hblt, hbb⟩ := h.own id b _ hμ
             have hnD := (h.kd id b _ _ hμ hg (by simp)).2 hic
             by_cases hroom : n + m <= cap
             ·
               have hfit : n * ei'.size + news.length <= C.size := by
                 rw [n1, <- Nat.add_mul, hcs]
                 exact Nat.le_trans (Nat.mul_le_mul_right _ hroom) hz
               have h1news : ∀ u ∈ news, one u := by
                 intro u hu'
                 obtain ⟨q, hq⟩ := List.getElem?_of_mem hu'
                 have hql : q < m * ei'.size := by rw [<- n1]; exact (List.getElem?_eq_some_iff.1 hq).1
                 obtain ⟨v, v1, v2, _⟩ := n4 (q / ei'.size) (q % ei'.size) (Nat.div_lt_of_lt_mul (by rw [Nat.mul_comm]; exact hql)) (Nat.mod_lt _ (by omega))
                 rw [show q / ei'.size * ei'.size + q % ei'.size = q by rw [Nat.mul_comm]; exact Nat.div_add_mod q _] at v1
                 rw [hq] at v1; cases v1; exact v2
               have hst := zcw P b (n * ei'.size) tt fr news 0 C w hh (by rw [hcs]; exact hf.1) (by omega) h1news
               rw [Nat.add_zero] at hst
               have hr := zcc (P := P) w t t' o.type e' ei' ok1 hni hei' (some ⟨b, 0, none⟩) n cap (a.eval y) m news n2 n3 hroom (w' := w.setRow b (zb0 C (n * ei'.size) news)) (fun ad had => by
                 cases had
                 rw [zbb, Nat.zero_add]
                 exact hst) (fun hx => by cases hx)
               rw [run _ _ hr]
               have hfree := h.goneFree hμ hg (by simp)
               have hgone := h.gone hg
               have hd2 : zb7 g [(id, .gone)] d = none := by simp [zb7, za2, zac (fun x => hdid x.symm : ¬ id = d), hnew]
               have had := hgone.adopt (d := d) (zww (hd _ hdst) h.ntb) hd2 (zj4 (hd _ hdst) h.ntb) (b := b) (z := z1) (m := n + m) hblt hbb hnD hfree (ob := .rowp q e' ei'.size (n + m) jg) (by simp) (zb0 C (n * ei'.size) news) (fun hD => by
                 refine ⟨rfl, _, tt, fr, setRow_heap w b C _ tt fr hh, by rw [zaq, hcs], ⟨hf.1, hf.2.1, zbn hf.2.2.1 h1news, hf.2.2.2⟩, Nat.le_trans (Nat.mul_le_mul_right _ hroom) hz, ?_⟩
                 rw [hjg]
                 refine zqf (C := fun k => (zb0 C (n * ei'.size) news)[k]?) (fun i j hi hj => ?_) (fun i j hi hj => ?_)
                 · obtain ⟨v, v1, v2, v3⟩ := hrow i j (by omega) hj
                   have hlt := (Array.getElem?_eq_some_iff.1 v1).1
                   refine ⟨v, ?_, v2, v3.mono hD (fun _ h => h) (fun _ _ h => h)⟩
                   rw [zaf _ _ _ _ hlt, if_neg]
                   · exact v1
                   · have h3 : (i + 1) * ei'.size <= n * ei'.size := Nat.mul_le_mul_right _ hi
                     rw [Nat.add_mul] at h3
                     omega
                 · obtain ⟨v, v1, v2, v3⟩ := n4 i j hi hj
                   have hlt := (List.getElem?_eq_some_iff.1 v1).1
                   refine ⟨v, ?_, v2, v3.mono hD (fun _ h => h) (fun _ _ h => h)⟩
                   rw [zaf _ _ _ _ (by omega), if_pos ⟨by omega, by omega⟩, Nat.add_sub_cancel_left]
                   exact v1)
               have hput := had.put hd (u := .slice (some ⟨b, 0, none⟩) (n + m) cap) (v := .sl d ei'.size 0 (n + m)) (by
                 have := R.sl (h := (w.setRow b (zb0 C (n * ei'.size) news)).heap) (D := D) (μ := fun i => if i = d then some (some (b, z1, n + m)) else μ i) d ei'.size 0 (n + m) b z1 (n + m) cap (by simp) hroom (by simpa using hz) (by omega)
                 simpa using this)
               have e2 : zb7 (zb7 g [(id, .gone)]) [(d, .rowp q e' ei'.size (n + m) jg)] = zb7 g [(d, .rowp q e' ei'.size (n + m) jg), (id, .gone)] := by
                 funext k
                 simp only [zb7, za2]
                 by_cases k1 : d = k
                 · subst k1; simp [za3]
                 · by_cases k2 : id = k
                   · subst k2; simp [za3, zac hdid]
                   · simp [zac k1, zac k2]
               rw [e2] at hput
               exact hK _ _ ⟨D, (fun i => if i = d then some (some (b, z1, n + m)) else μ i), by rw [zdk]; exact hput⟩
             ·
               have hg0 : cap < n + m := by omega
               obtain ⟨olds, o1, o2, o3⟩ := zex (P := P) (w := w) ei'.size n b 0 cap (fun i j => C.getD (i * ei'.size + j) undef) (fun i j hi hj => by
                 obtain ⟨v, v1, _⟩ := hrow i j (by omega) hj
                 rw [zao hh, Nat.zero_add]; exact getD_some (Array.getElem?_eq_some_iff.1 v1).1)
               have hr := zbc (P := P) w t t' o.type e' ei' z ok1 hni hei' i3 (some ⟨b, 0, none⟩) n cap (a.eval y) m olds news o2 n2 n3 hg0 hb2 (growslice_fits hg0 hb1)
               rw [run _ _ hr]
               have hw : Sim base M W nt f g c a w.drew D μ := h.drew
               obtain ⟨C2, hC2⟩ : ∃ C2, C2 = olds.toArray ++ news.toArray ++ Builtin.zeroCells z.cells (grownCap w (n + m) cap e' - (n + m)) := ⟨_, rfl⟩
               have hge := grownCap_ge w (n + m) cap e'
               have hCs : C2.size = grownCap w (n + m) cap e' * ei'.size := by
                 rw [hC2]
                 simp only [Array.size_append, size_zeroCells, List.size_toArray, n1, o1, hzs]
                 rw [<- Nat.add_mul, <- Nat.add_mul]
                 congr 1
                 omega
               rw [<- hC2]
               have hle2 : (n + m) * ei'.size <= C2.size := by rw [hCs]; exact Nat.mul_le_mul_right _ hge
               have hnew' := hw.new (hd _ hdst) hnew (.rowp q e' ei'.size (n + m) jg) C2 e' (n + m) (by simp) (zrr hw.dlt hle2 (ze5 hC2 (zc6 hsp o1 (fun i j hi hj => by
                   obtain ⟨v, v1, v2, _⟩ := hrow i j (by omega) hj
                   have hv1 := getD_some (Array.getElem?_eq_some_iff.1 v1).1
                   rw [hv1] at v1; cases v1
                   exact ⟨_, o3 i j hi hj, v2⟩)) (zc6 hsp n1 (fun i j hi hj => by obtain ⟨v, v1, v2, _⟩ := n4 i j hi hj; exact ⟨v, v1, v2⟩)) (zc6 hsp (by simp [size_zeroCells, hzs]) (fun i j hi hj => ⟨_, zdw hzs hi hj, i4 _ _ (getD_some (by omega))⟩))) (by
                 rw [hjg]
                 refine zqf (C := fun k => C2[k]?) (fun i j hi hj => ?_) (fun i j hi hj => ?_)
                 · obtain ⟨v, v1, v2, v3⟩ := hrow i j (by omega) hj
                   have hv1 := getD_some (Array.getElem?_eq_some_iff.1 v1).1
                   rw [hv1] at v1; cases v1
                   have h4 := o3 i j hi hj
                   have hlt := (List.getElem?_eq_some_iff.1 h4).1
                   refine ⟨_, ?_, v2, v3⟩
                   rw [hC2, Array.append_assoc]
                   rw [Array.getElem?_append_left (by simpa using hlt)]
                   simpa using h4
                 · obtain ⟨v, v1, v2, v3⟩ := n4 i j hi hj
                   have hlt := (List.getElem?_eq_some_iff.1 v1).1
                   refine ⟨v, ?_, v2, v3⟩
                   rw [hC2, Array.append_assoc]
                   rw [Array.getElem?_append_right (by simp [o1]), Array.getElem?_append_left (by simp [o1]; omega)]
                   simp [o1, v1]))
               refine hK _ _ (finish _ _ ⟨_, _, hnew'.put hd ?_⟩)
               have := R.sl (h := (w.drew.alloc (.cells C2 e')).heap) (D := D) (μ := fun id => if id = d then some (some (w.drew.heap.size, C2.size, n + m)) else μ id) d ei'.size 0 (n + m) w.heap.size C2.size (n + m) (grownCap w (n + m) cap e') (by simp) hge (by rw [hCs]; simp) (by omega)
               simpa using this
         rw [hjg] at main
         exact main
       · trivial
     · trivial
   · trivial
end
end Sy
end Go.Proofs.Ytogomcfgfnlclaa
namespace Go.Proofs.Ytogomcfgfnlclaa
namespace Sy
open Go Go.RowKit
set_option linter.unusedSimpArgs false
set_option linter.unusedVariables false
section
variable {P : Program} {T : TT} {base : Nat} {M : Two} {W : World} {nt : Nat} {f : Nat -> Option AV} {g : Nat -> Option Ob} {c : Nat -> Bool} {a : Act} {w : World} {D : Nat -> Prop} {μ : Mu} {o : Oper}
variable (h : Sim base M W nt f g c a w D μ) (hd : ∀ d, o.dst = some d -> d < nt)
include h hd
omit h hd in
theorem znq {l : List Operand} : ∀ {vals : List AV}, Ops w.heap D μ a l vals -> vals.length = l.length /\ ∀ (i : Nat) x y, vals[i]? = some x -> l[i]? = some y -> R w.heap D μ x (a.eval y) := by
 induction l with
 | nil => intro vals hv; cases vals with
   | nil => exact ⟨rfl, fun i x y h => by simp at h⟩
   | cons _ _ => exact hv.elim
 | cons z l ih => intro vals hv; cases vals with
   | nil => exact hv.elim
   | cons v vs =>
     obtain ⟨h1, h2⟩ := ih hv.2
     refine ⟨by simp [h1], fun i x y hx hy => ?_⟩
     cases i with
     | zero => simp at hx hy; subst hx; subst hy; exact hv.1
     | succ i => exact h2 i x y (by simpa using hx) (by simpa using hy)
theorem zzz {fo : Operand} {xs : Array Operand} {ts : Array TypeId} (e : o.op = .call { callee := .value fo, args := xs, argTypes := ts }) {vals : List AV} (hv : Ops w.heap D μ a (fo :: xs.toList) vals)
   {ob : Nat -> Option Ob} (hob : ∀ id z, ob id = some z -> g id = some z) : zbw P base M W nt f g c o a w (ymt std ob vals) := by
 unfold ymt
 split
 · rename_i k first caps zs
   obtain ⟨hf, hv⟩ := hv
   split
   · rename_i ys hys
     intro r hr K Q hK
     obtain ⟨l1, l2, l3⟩ := zjp h hob hys (ids := zdz (zb9 first (zb9 zs caps))) (fun _ h => h)
     have h' := h.freeze _ l2
     obtain ⟨o1, o2⟩ := znq hv
     obtain ⟨vs, us, hfv, e1, e2, r1, r2⟩ : ∃ vs us, a.eval fo = .func (.func k) vs us /\ first.length = vs.size /\ caps.length = us.size /\ (∀ (i : Nat) x v, first[i]? = some x -> vs[i]? = some v -> R w.heap D μ x v) /\ (∀ (i : Nat) x v, caps[i]? = some x -> us[i]? = some v -> R w.heap D μ x v) := by
       generalize a.eval fo = u at hf
       cases hf with
       | fn _ _ _ vs us e1 e2 h1 h2 => exact ⟨vs, us, rfl, e1, e2, h1, h2⟩
     have hl : zs.length = xs.size := by rw [o1]; simp
     have hRL : RL w.heap (DF D μ (zdz (zb9 first (zb9 zs caps)))) zar ys ((vs ++ xs.map a.eval) ++ us) := by
       refine ⟨by rw [l1, zae, zae]; simp [e1, e2, hl], fun i x' v hx' hv' => ?_⟩
       have hlt : i < (zb9 first (zb9 zs caps)).length := by rw [<- l1]; exact (List.getElem?_eq_some_iff.1 hx').1
       refine l3 i _ x' v (List.getElem?_eq_getElem hlt) hx' ?_
       obtain ⟨x, hx⟩ : ∃ x, (zb9 first (zb9 zs caps))[i]? = some x := ⟨_, List.getElem?_eq_getElem hlt⟩
       have hx2 : (zb9 first (zb9 zs caps))[i]'hlt = x := (List.getElem?_eq_some_iff.1 hx).2
       rw [hx2]
       rw [zae, zae] at hx
       rw [Array.append_assoc] at hv'
       by_cases i1 : i < first.length
       · rw [List.getElem?_append_left i1] at hx
         rw [Array.getElem?_append_left (by omega)] at hv'
         exact r1 i x v hx hv'
       · rw [List.getElem?_append_right (by omega)] at hx
         rw [Array.getElem?_append_right (by omega)] at hv'
         rw [e1] at hx
         by_cases i2 : i - vs.size < zs.length
         · rw [List.getElem?_append_left i2] at hx
           rw [Array.getElem?_append_left (by simp; omega)] at hv'
           have i3 : i - vs.size < xs.size := by omega
           simp [i3] at hv'
           subst hv'
           exact o2 _ x _ hx (by simp [i3])
         · rw [List.getElem?_append_right (by omega)] at hx
           rw [Array.getElem?_append_right (by simp; omega)] at hv'
           simp only [Array.size_map, <- hl] at hv'
           exact r2 _ x v hx hv'
     have hcall := hr _ w _ h'.dlt hRL h'.gok
     have fin : ∀ v D' w', Below w.heap.size w w' -> (∀ b, DF D μ (zdz (zb9 first (zb9 zs caps))) b -> D' b) -> (∀ b, D' b -> DF D μ (zdz (zb9 first (zb9 zs caps))) b \/ (w.heap.size <= b /\ b < w'.heap.size)) -> R w'.heap D' zar r v -> K (a.put o.dst v) w' := by
       intro v D' w' hb hD hD' hrv
       have hs := h'.world hb.os hb.tape hb.output hb.size hb.block hD hD'
       exact hK _ _ ⟨_, _, hs.put hd hrv.free⟩
     unfold Oper.wp
     have hrun : (execOp a.eval o).run P w = (callFunc k ((vs ++ xs.map a.eval) ++ us)).run P w := by
       unfold execOp
       rw [e]
       simp [resolve, hfv, Deferred.ofValue, invoke]
     rw [hrun]
     unfold zfp at hcall
     split at hcall
     · rename_i f' args' w' hcf
       rw [hcf, Oper.upon_enter]
       refine hcall.mono fun en w'' hen => ?_
       obtain ⟨v, D', rfl, p1, p2, p3, p4⟩ := hen
       exact fin v D' w'' p1 p2 p3 p4
     · rename_i v w' hcf
       rw [hcf, Oper.upon_value]
       obtain ⟨v', D', hv', p1, p2, p3, p4⟩ := hcall
       cases hv'
       exact fin v D' w' p1 p2 p3 p4
     · exact hcall.elim
   · split
     · rename_i ys hys
       intro r hsc hr K Q hK
       obtain ⟨l1, l3⟩ := zni h hob hys
       obtain ⟨o1, o2⟩ := znq hv
       obtain ⟨vs, us, hfv, e1, e2, r1, r2⟩ : ∃ vs us, a.eval fo = .func (.func k) vs us /\ first.length = vs.size /\ caps.length = us.size /\ (∀ (i : Nat) x v, first[i]? = some x -> vs[i]? = some v -> R w.heap D μ x v) /\ (∀ (i : Nat) x v, caps[i]? = some x -> us[i]? = some v -> R w.heap D μ x v) := by
         generalize a.eval fo = u at hf
         cases hf with
         | fn _ _ _ vs us e1 e2 h1 h2 => exact ⟨vs, us, rfl, e1, e2, h1, h2⟩
       have hl : zs.length = xs.size := by rw [o1]; simp
       have hRL : RL w.heap (zy0 D μ) zar ys ((vs ++ xs.map a.eval) ++ us) := by
         refine ⟨by rw [l1, zae, zae]; simp [e1, e2, hl], fun i x' v hx' hv' => ?_⟩
         have hlt : i < (zb9 first (zb9 zs caps)).length := by rw [<- l1]; exact (List.getElem?_eq_some_iff.1 hx').1
         refine l3 i _ x' v (List.getElem?_eq_getElem hlt) hx' ?_
         obtain ⟨x, hx⟩ : ∃ x, (zb9 first (zb9 zs caps))[i]? = some x := ⟨_, List.getElem?_eq_getElem hlt⟩
         have hx2 : (zb9 first (zb9 zs caps))[i]'hlt = x := (List.getElem?_eq_some_iff.1 hx).2
         rw [hx2]
         rw [zae, zae] at hx
         rw [Array.append_assoc] at hv'
         by_cases i1 : i < first.length
         · rw [List.getElem?_append_left i1] at hx
           rw [Array.getElem?_append_left (by omega)] at hv'
           exact r1 i x v hx hv'
         · rw [List.getElem?_append_right (by omega)] at hx
           rw [Array.getElem?_append_right (by omega)] at hv'
           rw [e1] at hx
           by_cases i2 : i - vs.size < zs.length
           · rw [List.getElem?_append_left i2] at hx
             rw [Array.getElem?_append_left (by simp; omega)] at hv'
             have i3 : i - vs.size < xs.size := by omega
             simp [i3] at hv'
             subst hv'
             exact o2 _ x _ hx (by simp [i3])
           · rw [List.getElem?_append_right (by omega)] at hx
             rw [Array.getElem?_append_right (by simp; omega)] at hv'
             simp only [Array.size_map, <- hl] at hv'
             exact r2 _ x v hx hv'
       have hcall := hr _ w _ (fun b hb => by
         rcases hb with hb | ⟨id, z, m, hm⟩
         · exact h.dlt b hb
         · exact (h.own id b _ hm).1) hRL h.gok
       have fin : ∀ v D' w', Below w.heap.size w w' -> R w'.heap D' zar r v -> K (a.put o.dst v) w' := by
         intro v D' w' hb hrv
         have hs := h.world hb.os hb.tape hb.output hb.size hb.block (D' := D) (fun _ h => h) (fun _ h => .inl h)
         exact hK _ _ ⟨_, _, hs.put hd (yk3 hrv hsc)⟩
       unfold Oper.wp
       have hrun : (execOp a.eval o).run P w = (callFunc k ((vs ++ xs.map a.eval) ++ us)).run P w := by
         unfold execOp
         rw [e]
         simp [resolve, hfv, Deferred.ofValue, invoke]
       rw [hrun]
       unfold zfp at hcall
       split at hcall
       · rename_i f' args' w' hcf
         rw [hcf, Oper.upon_enter]
         refine hcall.mono fun en w'' hen => ?_
         obtain ⟨v, D', rfl, p1, p2, p3, p4⟩ := hen
         exact fin v D' w'' p1 p4
       · rename_i v w' hcf
         rw [hcf, Oper.upon_value]
         obtain ⟨v', D', hv', p1, p2, p3, p4⟩ := hcall
         cases hv'
         exact fin v D' w' p1 p4
       · exact hcall.elim
     · trivial
 · trivial
theorem says (hT : zbd P T) (hpl : ∀ x ∈ zbu o.op, ∀ v, x = .const v -> zho v = true) {kn : List (Nat × Bool)} (hk : ∀ t b, za2 kn t = some b -> f t = some (.bool b)) : zbw P base M W nt f g c o a w (zj6 T std f g c kn o) := by
 have hv : ∀ l : List Operand, (∀ x ∈ l, ∀ v, x = .const v -> zho v = true) -> Ops w.heap D μ a l (zcn (evf f kn) l) := by
   intro l
   induction l with
   | nil => intro _; trivial
   | cons x l ih => intro hp; exact ⟨ym3 h hk x (fun v hv => hp x (by simp) v hv), ih (fun y hy => hp y (by simp [hy]))⟩
 have hv := hv _ hpl
 unfold zj6
 generalize zcn (evf f kn) (zbu o.op) = vals at hv |-
 have hob : ∀ ids id z, yne g ids id = some z -> g id = some z := by
   intro ids id z hz
   unfold yne at hz
   split at hz
   · exact hz
   · cases hz
 have hice : ∀ id, zxd c o.op vals id = false -> c id = false := by
   intro id hz
   unfold zxd at hz
   split at hz
   · split at hz
     · exact hz
     · cases hz
   · cases hz
 unfold yt1
 split
 · rename_i x e; rw [e] at hv; exact zpb h hd (.inl e) hv
 · rename_i x e; rw [e] at hv; exact zpb h hd (.inr e) hv
 · rename_i b x y e; rw [e] at hv; exact zzi h hd e hv
 · rename_i op t x y t' e; rw [e] at hv; exact ya1 h hd hT e hv
 · rename_i op t x e; rw [e] at hv; exact yk4 h hd e hv
 · rename_i s t x e
   have hv' := hv; rw [e] at hv'
   split
   · rename_i ht; exact zwg h hd hT e ht hv'
   · exact zzy h hd hT e hv' (hob _)
 · rename_i t e
   split
   · exact zrq h hd hT e (hob _) _
   · exact zwj h hd hT e
 · rename_i t x e
   have hv' := hv; rw [e] at hv'
   split
   · exact ya0 h hd hT e hv' (hob _) _
   · exact yfc h hd hT e hv'
 · rename_i t ps e
   have hv' := hv; rw [e] at hv'; simp only [zbu, zhw] at hv'; exact zwh h hd hT e hv'
 · rename_i t n ps e
   have hv' := hv; rw [e] at hv'; simp only [zbu, zhw] at hv'
   split
   · exact zvx h hd hT e hv' (hob _)
   · exact zzg h hd hT e (ztx hv') (hob _)
 · rename_i t x e
   have hv' := hv; rw [e] at hv'; exact zzr h hd hT e hv' (hob _)
 · rename_i t x y e
   have hv' := hv; rw [e] at hv'; exact zvw h hd hT e hv' (hob _) hice
 · rename_i t x k e
   have hv' := hv; rw [e] at hv'; exact zwd h hd hT e hv'
 · rename_i t x k e
   have hv' := hv; rw [e] at hv'; exact zwc h hd hT e hv'
 · rename_i t x y e
   have hv' := hv; rw [e] at hv'; exact zwb h hd hT e (zty hv') (hob _)
 · rename_i t x y e
   have hv' := hv; rw [e] at hv'; exact zwa h hd hT e hv'
 · rename_i t x l r m e
   have hv' := hv; rw [e] at hv'; simp only [zbu, zae] at hv'
   split
   · exact zrm h hd hT e hv'
   · exact zvy h hd hT e hv' (hob _)
 · rename_i x i e
   have hv' := hv; rw [e] at hv'; exact zpc h hd e hv'
 · rename_i fn xs ys e
   have hv' := hv; rw [e] at hv'; simp only [zbu, zae] at hv'; exact zzv h hd e hv'
 · rename_i x e
   have hv' := hv; rw [e] at hv'; exact yf6 h hd e hv'
 · rename_i t x e
   have hv' := hv; rw [e] at hv'; exact yfe h hd hT e hv' (hob _)
 · rename_i t x y e
   have hv' := hv; rw [e] at hv'; exact zrn h hd hT e hv'
 · rename_i t e
   split
   · split
     · exact zw2 h hd hT e
     · split
       · exact zw3 h hd hT e
       · split
         · exact zw4 h hd hT e
         · split
           · exact zw5 h hd hT e
           · exact zzp h hd hT e
   · trivial
 · rename_i t x y ok e
   have hv' := hv; rw [e] at hv'
   split
   · rename_i hm; exact zw9 h hd hT e hv' (hob _) hm
   · split
     · rename_i hm; exact zw7 h hd hT e hv' (hob _) hm
     · split
       · rename_i hm; exact zw8 h hd hT e hv' (hob _) hm
       · split
         · rename_i hm
           split
           · exact zw6 h hd hT e hv' (hob _) hm
           · trivial
         · exact zzq h hd hT e hv' (hob _)
 · rename_i t x y v e
   have hv' := hv; rw [e] at hv'
   split
   · rename_i hm; exact zzm h hd hT e hv' (hob _) hice hm
   · split
     · rename_i hm; exact zzk h hd hT e hv' (hob _) hice hm
     · split
       · rename_i hm; exact zzl h hd hT e hv' (hob _) hice hm
       · split
         · rename_i hm; exact zzj h hd hT e hv' (hob _) hice hm
         · exact yf7 h hd hT e hv' (hob _) hice
 · rename_i cl e
   obtain ⟨callee, args, ts⟩ := cl
   have hv' := hv
   rw [e] at hv'
   cases callee with
   | value fo => exact zzz h hd e hv' (hob _)
   | invoke r m => trivial
   | builtin b =>
     simp only [zbu] at hv'
     cases b with
     | len =>
       simp only
       split
       · rename_i t r hts
         match args, hv' with
         | ⟨[x]⟩, hv' =>
           split
           · rename_i hm; exact zzt h hd hT hts e hv' (hob _) hm
           · split
             · rename_i hm; exact zzs h hd hT hts e hv' (hob _) hm
             · exact yfa h hd hT hts e (zty hv') (hob _)
         | ⟨[]⟩, hv' => match vals, hv' with | [], _ => trivial
         | ⟨x :: y :: l⟩, hv' => match vals, hv' with | u :: v :: vs, _ => (split; (· trivial); (· split; (· trivial); (· clear hv'; cases u <;> trivial)))
       · trivial
     | cap =>
       simp only
       split
       · rename_i t r hts
         match args, hv' with
         | ⟨[x]⟩, hv' => exact yfb h hd hT hts e hv'
         | ⟨[]⟩, hv' => match vals, hv' with | [], _ => trivial
         | ⟨x :: y :: l⟩, hv' => match vals, hv' with | u :: v :: vs, _ => cases u <;> trivial
       · trivial
     | clear =>
       simp only
       split
       · rename_i t r hts
         match args, hv' with
         | ⟨[x]⟩, hv' => exact zwf h hd hT hts e hv' (hob _) hice
         | ⟨[]⟩, hv' => match vals, hv' with | [], _ => trivial
         | ⟨x :: y :: l⟩, hv' => match vals, hv' with | u :: v :: vs, _ => trivial
       · trivial
     | unsafeSliceData =>
       match args, hv' with
       | ⟨[x]⟩, hv' => exact zvz h hd e hv'
       | ⟨[]⟩, hv' => match vals, hv' with | [], _ => trivial
       | ⟨x :: y :: l⟩, hv' => match vals, hv' with | u :: v :: vs, _ => (show zbw _ _ _ _ _ _ _ _ _ _ _ (zqw _ _); unfold zqw; split; (rename_i he; simp at he); trivial)
     | unsafeString =>
       simp only
       split
       · rename_i t t2 hts
         match args, hv' with
         | ⟨[x, y]⟩, hv' => exact zzf h hd hT hts e hv' (hob _) hice
         | ⟨[]⟩, hv' => match vals, hv' with | [], _ => trivial
         | ⟨[x]⟩, hv' => match vals, hv' with | [u], _ => (show zbw _ _ _ _ _ _ _ _ _ _ _ (zsz _ _ _ _ _ _); unfold zsz; split; (rename_i he; simp at he); trivial)
         | ⟨x :: y :: z :: l⟩, hv' => match vals, hv' with | u :: v :: q :: vs, _ => (show zbw _ _ _ _ _ _ _ _ _ _ _ (zsz _ _ _ _ _ _); unfold zsz; split; (rename_i he; simp at he); trivial)
       · trivial
     | complex =>
       match args, hv' with
       | ⟨[x, y]⟩, hv' => exact zpd h hd e hv'
       | ⟨[]⟩, hv' => match vals, hv' with | [], _ => trivial
       | ⟨[x]⟩, hv' => match vals, hv' with | [u], _ => (show zbw _ _ _ _ _ _ _ _ _ _ _ (ymr _); unfold ymr; split; (rename_i he; simp at he); trivial)
       | ⟨x :: y :: z :: l⟩, hv' => match vals, hv' with | u :: v :: q :: vs, _ => (show zbw _ _ _ _ _ _ _ _ _ _ _ (ymr _); unfold ymr; split; (rename_i he; simp at he); trivial)
     | real =>
       match args, hv' with
       | ⟨[x]⟩, hv' => exact zzh h hd e hv'
       | ⟨[]⟩, hv' => match vals, hv' with | [], _ => trivial
       | ⟨x :: y :: l⟩, hv' => match vals, hv' with | u :: v :: vs, _ => (show zbw _ _ _ _ _ _ _ _ _ _ _ (cRe _); unfold cRe; split; (rename_i he; simp at he); trivial)
     | imag =>
       match args, hv' with
       | ⟨[x]⟩, hv' => exact zzu h hd e hv'
       | ⟨[]⟩, hv' => match vals, hv' with | [], _ => trivial
       | ⟨x :: y :: l⟩, hv' => match vals, hv' with | u :: v :: vs, _ => (show zbw _ _ _ _ _ _ _ _ _ _ _ (cIm _); unfold cIm; split; (rename_i he; simp at he); trivial)
     | min =>
       match args, hv' with
       | ⟨[x, y]⟩, hv' => exact yf8 h hd e hv'
       | ⟨[]⟩, hv' => match vals, hv' with | [], _ => trivial
       | ⟨[x]⟩, hv' => match vals, hv' with | [u], _ => cases u <;> trivial
       | ⟨x :: y :: z :: l⟩, hv' => match vals, hv' with | u :: v :: q :: vs, _ => (show zbw _ _ _ _ _ _ _ _ _ _ _ (yq6 _ _); unfold yq6; split; (rename_i he; simp at he); (rename_i he; simp at he); trivial)
     | max =>
       match args, hv' with
       | ⟨[x, y]⟩, hv' => exact yf9 h hd e hv'
       | ⟨[]⟩, hv' => match vals, hv' with | [], _ => trivial
       | ⟨[x]⟩, hv' => match vals, hv' with | [u], _ => cases u <;> trivial
       | ⟨[x, y, z]⟩, hv' => exact zzo h hd e hv'
       | ⟨x :: y :: z :: z' :: l⟩, hv' => match vals, hv' with | u :: v :: q :: q' :: vs, _ => (show zbw _ _ _ _ _ _ _ _ _ _ _ (ymk _ _); unfold ymk; split; (rename_i he; simp at he); (rename_i he; simp at he); (rename_i he; simp at he); trivial)
     | append =>
       simp only
       split
       · rename_i t t' hts
         match args, hv' with
         | ⟨[x, y]⟩, hv' =>
           split
           · exact zph h hd hT hts e hv' (hob _) hice
           · split
             · split
               · exact zpf h hd hT hts e hv' (hob _) _
               · exact zpe h hd hT hts e hv' (hob _)
             · split
               · rename_i hrp; exact zpg h hd hT hts e hv' (hob _) hice hrp
               · exact zrp h hd hT hts e hv' (hob _) hice
         | ⟨[]⟩, hv' => match vals, hv' with | [], _ => trivial
         | ⟨[x]⟩, hv' => match vals, hv' with | [u], _ => (split <;> first | trivial | (unfold zia; split; (rename_i he; simp at he); trivial) | (split <;> first | trivial | (split <;> first | (unfold zi9; split; (rename_i he; simp at he); trivial) | (unfold zi8; split; (rename_i he; simp at he); trivial))))
         | ⟨x :: y :: z :: l⟩, hv' => match vals, hv' with | u :: v :: q :: vs, _ => ((repeat' split) <;> first | trivial | (unfold zia; split <;> first | trivial | (rename_i he; simp at he)) | (unfold zi9; split <;> first | trivial | (rename_i he; simp at he)) | (unfold zi8; split <;> first | trivial | (rename_i he; simp at he)) | (unfold zju; split <;> first | trivial | (rename_i he; simp at he)) | (unfold zot; split <;> first | trivial | (rename_i he; simp at he)))
       · trivial
     | copy =>
       simp only
       split
       · rename_i t t' hts
         match args, hv' with
         | ⟨[x, y]⟩, hv' =>
           split
           · exact zwe h hd hT hts e hv' (hob _) hice
           · exact zzx h hd hT hts e hv' (hob _) hice
         | ⟨[]⟩, hv' => match vals, hv' with | [], _ => trivial
         | ⟨[x]⟩, hv' => match vals, hv' with | [u], _ => (split <;> first | (unfold zqy; split; (rename_i he; simp at he); trivial) | (unfold ydr; split; (rename_i he; simp at he); trivial))
         | ⟨x :: y :: z :: l⟩, hv' => match vals, hv' with | u :: v :: q :: vs, _ => (split <;> first | (unfold zqy; split; (rename_i he; simp at he); trivial) | (unfold ydr; split; (rename_i he; simp at he); trivial))
       · trivial
     | delete =>
       simp only
       split
       · rename_i t t' hts
         match args, hv' with
         | ⟨[x, y]⟩, hv' =>
           split
           · rename_i hm; exact zw1 h hd hT hts e hv' (hob _) hice hm
           · split
             · rename_i hm; exact zw0 h hd hT hts e hv' (hob _) hice hm
             · exact zzn h hd hT hts e hv' (hob _) hice
         | ⟨[]⟩, hv' => match vals, hv' with | [], _ => trivial
         | ⟨[x]⟩, hv' => match vals, hv' with | [u], _ => ((repeat' split) <;> first | trivial | (unfold zqx; split <;> first | trivial | (rename_i he; simp at he)) | (unfold yde; split <;> first | trivial | (rename_i he; simp at he)))
         | ⟨x :: y :: z :: l⟩, hv' => match vals, hv' with | u :: v :: q :: vs, _ => ((repeat' split) <;> first | trivial | (unfold zqx; split <;> first | trivial | (rename_i he; simp at he)) | (unfold yde; split <;> first | trivial | (rename_i he; simp at he)))
       · trivial
     | _ => trivial
 · trivial
end
end Sy
end Go.Proofs.Ytogomcfgfnlclaa
namespace Go.Proofs.Ytogomcfgfnlclaa
namespace Sy
open Go Go.RowKit
set_option linter.unusedSimpArgs false
set_option linter.unusedVariables false
set_option linter.unusedSectionVars false
def ybg (μ : Mu) (F : List (Nat × Option Nat)) : Mu := fun t => match za2 F t with
 | some (some id) => μ id
 | some none => some none
 | none => none
def zfm (μ : Mu) (F : List (Nat × Option Nat)) : Mu := fun t => if zb4 t = true then (if za2 F (zgg t) = some (some (zgg t)) then μ t else none) else ybg μ F t
def Pr (F : List (Nat × Option Nat)) (t id : Nat) : Prop := za2 F t = some (some id) /\ t < zbv
def PrN (F : List (Nat × Option Nat)) (t : Nat) : Prop := za2 F t = some none /\ t < zbv
def Inj (ids : List (Nat × Option Nat)) : Prop := ∀ t t' id, za2 ids t = some (some id) -> za2 ids t' = some (some id) -> t = t'
structure Ext (m m' : zcm) : Prop where
 ids : ∀ t x, za2 m.ids t = some x -> za2 m'.ids t = some x
 ps : ∀ p, p ∈ m.ps -> p ∈ m'.ps
 inj : Inj m.ids -> Inj m'.ids
theorem Ext.refl (m : zcm) : Ext m m := ⟨fun _ _ h => h, fun _ h => h, fun h => h⟩
theorem Ext.trans {m m' m'' : zcm} (a : Ext m m') (b : Ext m' m'') : Ext m m'' := ⟨fun t x h => b.ids t x (a.ids t x h), fun p h => b.ps p (a.ps p h), fun h => b.inj (a.inj h)⟩
theorem Ext.add (m : zcm) (p : Prop) : Ext m (m.add p) := ⟨fun _ _ h => h, fun q h => List.mem_cons_of_mem _ h, fun h => h⟩
theorem zsd {id : Nat} {x : Option Nat} (h : yiq id x = true) : x = some id := by
 unfold yiq at h
 split at h
 · rw [za1 h]
 · cases h
theorem zyl {id : Nat} {ids : List (Nat × Option Nat)} (h : zp6 id ids = false) : ∀ t, za2 ids t ≠ some (some id) := by
 induction ids with
 | nil => intro t; simp [za2]
 | cons p r ih =>
   obtain ⟨k, y⟩ := p
   unfold zp6 at h
   cases e : yiq id y with
   | true => rw [e] at h; cases h
   | false =>
     rw [e] at h
     intro t
     unfold za2
     split
     · intro hy
       cases hy
       simp [yiq, za3] at e
     · exact ih h t
theorem zbf {m m' : zcm} {tid id : Nat} (h : zcx m tid id = some m') : Ext m m' /\ Pr m'.ids tid id := by
 unfold zcx at h
 split at h
 · cases h
 rename_i hlt
 have hlt := zan hlt
 refine (show Ext m m' /\ za2 m'.ids tid = some (some id) from ?_).imp (fun h => h) (fun h => ⟨h, hlt⟩)
 split at h
 · rename_i x hx
   split at h
   · rename_i e; cases h; exact ⟨.refl _, by rw [hx, zsd e]⟩
   · cases h
 · rename_i hx
   split at h
   · cases h
   · rename_i e
     cases h
     refine ⟨⟨fun t x ht => ?_, fun _ h => h, fun hi t t' id' h1 h2 => ?_⟩, by simp [za2, za3]⟩
     · simp only [za2]
       split
       · rename_i e'; rw [za1 e'] at hx; rw [hx] at ht; cases ht
       · exact ht
     · have e := zyl (by simpa using e : zp6 id m.ids = false)
       simp only [za2] at h1 h2
       cases q1 : za5 tid t with
       | true => cases q2 : za5 tid t' with
         | true => rw [<- za1 q1, <- za1 q2]
         | false => rw [q1] at h1; rw [q2] at h2; cases h1; exact absurd h2 (e _)
       | false => cases q2 : za5 tid t' with
         | true => rw [q1] at h1; rw [q2] at h2; cases h2; exact absurd h1 (e _)
         | false => rw [q1] at h1; rw [q2] at h2; exact hi _ _ _ h1 h2
theorem zme {m m' : zcm} {tid : Nat} (h : zh2 m tid = some m') : Ext m m' /\ PrN m'.ids tid := by
 unfold zh2 at h
 split at h
 · cases h
 rename_i hlt
 have hlt := zan hlt
 refine (show Ext m m' /\ za2 m'.ids tid = some none from ?_).imp (fun h => h) (fun h => ⟨h, hlt⟩)
 split at h
 · cases h
 · rename_i hx
   cases h
   refine ⟨⟨fun t x ht => ?_, fun _ h => h, fun hi t t' id' h1 h2 => ?_⟩, by simp [za2, za3]⟩
   · simp only [za2]
     split
     · rename_i e'; rw [za1 e'] at hx; rw [hx] at ht; cases ht
     · exact ht
   · simp only [za2] at h1 h2
     split at h1 <;> split at h2
     · cases h1
     · cases h1
     · cases h2
     · exact hi _ _ _ h1 h2
section
variable {h : Array Obj} {D : Nat -> Prop} {μ : Mu}
def Fin (m : zcm) (F : List (Nat × Option Nat)) : Prop := (∀ t x, za2 m.ids t = some x -> za2 F t = some x) /\ ∀ p, p ∈ m.ps -> p
theorem Fin.of {m m' : zcm} {F : List (Nat × Option Nat)} (e : Ext m m') (f : Fin m' F) : Fin m F := ⟨fun t x h => f.1 t x (e.ids t x h), fun p h => f.2 p (e.ps p h)⟩
theorem Fin.get {m : zcm} {F : List (Nat × Option Nat)} (f : Fin m F) {t id : Nat} (h : Pr m.ids t id) : Pr F t id := ⟨f.1 _ _ h.1, h.2⟩
theorem Fin.getN {m : zcm} {F : List (Nat × Option Nat)} (f : Fin m F) {t : Nat} (h : PrN m.ids t) : PrN F t := ⟨f.1 _ _ h.1, h.2⟩
theorem zgf {F : List (Nat × Option Nat)} {t : Nat} (h : t < zbv) : zfm μ F t = ybg μ F t := by unfold zfm; rw [if_neg (by rw [zaw.2 h]; decide)]
theorem zc2 {F : List (Nat × Option Nat)} {t id : Nat} (h : Pr F t id) : zfm μ F t = μ id := by rw [zgf h.2]; unfold ybg; rw [h.1]
theorem zu6 {F : List (Nat × Option Nat)} {t : Nat} (h : PrN F t) : zfm μ F t = some none := by rw [zgf h.2]; unfold ybg; rw [h.1]
theorem zfb {F : List (Nat × Option Nat)} {p : Nat} (h : Pr F p p) (k : Nat) : zfm μ F (mid p k) = μ (mid p k) := by
 obtain ⟨m1, m2, _⟩ := ze6 h.2 k
 unfold zfm
 rw [if_pos m1, m2, if_pos h.1]
theorem zrw {F : List (Nat × Option Nat)} {q : Nat} (h : Pr F q q) : ∀ id x, pm q μ id = some x -> pm q (zfm μ F) id = some x := by
 intro id x hx
 unfold pm at hx |-
 split at hx
 · rename_i e
   rw [if_pos e]
   unfold zfm
   rw [if_pos e.1, e.2, if_pos h.1]
   exact hx
 · cases hx
theorem zd0.turn {kk : KK} {has has' : Ky -> Bool} {es : Array MapEntry} {clock : Nat} {kf : Nat -> Ky} (k : zd0 kk has' es clock kf) (e : ∀ x, has' x = has x) : zd0 kk has es clock kf :=
 ⟨fun i x hx => ⟨(k.key i x hx).1, by rw [<- e]; exact (k.key i x hx).2⟩, fun x hx => k.all x (by rw [e]; exact hx), k.st⟩
theorem zo3 {m m' : zcm} {v u : AV} (e : zdm m v u = some m') : Ext m m' /\ ∀ F x, Fin m' F -> R h D μ u x -> R h D (zfm μ F) v x := by
 unfold zdm at e
 split at e
 · cases e; exact ⟨.refl _, fun F x _ _ => .dead _⟩
 · cases e; refine ⟨.add _ _, fun F x f r => ?_⟩
   have := f.2 _ (List.mem_cons_self ..); subst this
   cases r; exact .bool _
 · split at e
   · rename_i hk
     have hk := of_decide_eq_true hk; subst hk
     cases e; refine ⟨.add _ _, fun F x f r => ?_⟩
     have := f.2 _ (List.mem_cons_self ..); subst this
     cases r; exact .int _ _
   · cases e
 · cases e; refine ⟨.add _ _, fun F x f r => ?_⟩
   have := f.2 _ (List.mem_cons_self ..); subst this
   cases r with | str _ s e => exact .str _ s e
 · split at e
   · rename_i hk
     have hk := of_decide_eq_true hk; subst hk
     cases e; refine ⟨.add _ _, fun F x f r => ?_⟩
     have := f.2 _ (List.mem_cons_self ..); subst this
     cases r; exact .flt _ _
   · cases e
 · split at e
   · rename_i hk
     have hk := of_decide_eq_true hk; subst hk
     cases e; refine ⟨(Ext.add _ _).trans (.add _ _), fun F x f r => ?_⟩
     have h1 := f.2 _ (List.mem_cons_self ..)
     have h2 := f.2 _ (List.mem_cons_of_mem _ (List.mem_cons_self ..))
     subst h1; subst h2
     cases r; exact .cpx _ _ _
   · cases e
 · cases e; exact ⟨.refl _, fun F x _ r => by cases r; exact .nilp⟩
 · cases e; exact ⟨.refl _, fun F x _ r => by cases r; exact .nilm⟩
 · cases e; exact ⟨.refl _, fun F x _ r => by cases r; exact .nilf⟩
 · cases e; exact ⟨.refl _, fun F x _ r => by cases r; exact .nils⟩
 · cases e; exact ⟨.refl _, fun F x _ r => by cases r; exact .nili⟩
 · cases e; refine ⟨.add _ _, fun F x f r => ?_⟩
   have := f.2 _ (List.mem_cons_self ..); subst this
   cases r with
   | ifn => exact .ifn
   | ifs t p => exact .ifs t p
 · cases e; exact ⟨.refl _, fun F x _ r => by cases r; exact .emp _ _⟩
 · cases e; exact ⟨.refl _, fun F x _ r => by cases r; exact .emz _⟩
 · rename_i sz n get sz' n' get'
   split at e
   · rename_i hz
     have := za1 hz; subst this
     cases e; refine ⟨.add _ _, fun F x f r => ?_⟩
     obtain ⟨h1, h2⟩ := f.2 _ (List.mem_cons_self ..); subst h1
     cases r with
     | lst0 _ _ a cap hn => exact .lst0 _ _ a cap hn
     | lst _ _ _ b o cap vs hD hc hv h1 hr => exact .lst _ _ _ b o cap vs hD hc hv h1 (fun i j hi hj => by rw [<- h2 i j hi hj]; exact hr i j hi hj)
   · cases e
 · rename_i sz n get sz' n' get'
   split at e
   · rename_i hz
     have := za1 hz; subst this
     cases e; refine ⟨.add _ _, fun F x f r => ?_⟩
     obtain ⟨h1, h2⟩ := f.2 _ (List.mem_cons_self ..); subst h1
     cases r.lessx with
     | lst0 _ _ a cap hn => exact .lst0 _ _ a cap hn
     | lst _ _ _ b o cap vs hD hc hv h1 hr => exact .lst _ _ _ b o cap vs hD hc hv h1 (fun i j hi hj => by rw [<- h2 i j hi hj]; exact hr i j hi hj)
   · cases e
 · cases e; refine ⟨.add _ _, fun F x f r => ?_⟩
   have h1 := f.2 _ (List.mem_cons_self ..); subst h1
   cases r with | nils => exact .lst0 _ _ none 0 (fun _ => rfl)
 · cases e; refine ⟨.add _ _, fun F x f r => ?_⟩
   have h1 := f.2 _ (List.mem_cons_self ..); subst h1
   cases r with | emp a cap => exact .lst0 _ _ _ cap (fun h => by cases h)
 · cases e; refine ⟨.add _ _, fun F x f r => ?_⟩
   have h1 := f.2 _ (List.mem_cons_self ..); subst h1
   cases r with | emz a => exact .lst0 _ _ _ 0 (fun h => by cases h)
 · rename_i n get n' get'
   cases e; refine ⟨.add _ _, fun F x f r => ?_⟩
   obtain ⟨h1, h2⟩ := f.2 _ (List.mem_cons_self ..)
   cases r with
   | iptr _ _ b o vs hD hv h1' hr => exact .iptr _ _ b o vs hD (fun j hj => hv j (by omega)) (fun j hj => h1' j (by omega)) (fun j hj => by rw [<- h2 j hj]; exact hr j (by omega))
 · rename_i n get n' get'
   split at e
   · rename_i hz
     have := za1 hz; subst this
     cases e; refine ⟨.add _ _, fun F x f r => ?_⟩
     have h2 := f.2 _ (List.mem_cons_self ..)
     cases r with
     | arr _ _ vs e1 h1 hr => exact .arr _ _ vs e1 h1 (fun j v hv => by
         rw [<- h2 j (by rw [e1]; exact (Array.getElem?_eq_some_iff.1 hv).1)]
         exact hr j v hv)
   · cases e
 · split at e
   · rename_i ho
     have := za1 ho; subst this
     obtain ⟨e1, e2⟩ := zbf e
     refine ⟨e1, fun F x f r => ?_⟩
     cases r with | ref _ _ b z m hm => exact .ref _ _ b z m ((zc2 (f.get e2)).trans hm)
   · cases e
 · split at e
   · rename_i hz
     split at e
     · rename_i ho
       split at e
       · rename_i m1 hp
         have := za1 hz; subst this
         have := za1 ho; subst this
         obtain ⟨e1, e2⟩ := zbf hp
         cases e
         refine ⟨e1.trans (.add _ _), fun F x f r => ?_⟩
         have h1 := f.2 _ (List.mem_cons_self ..); subst h1
         cases r with | eref _ _ _ _ b z m hm hi => exact .eref _ _ _ _ b z m ((zc2 (f.get e2)).trans hm) hi
       · cases e
     · cases e
   · cases e
 · split at e
   · rename_i hz
     split at e
     · rename_i m1 hp
       have := za1 hz; subst this
       obtain ⟨e1, e2⟩ := zbf hp
       cases e
       refine ⟨e1.trans (.add _ _), fun F x f r => ?_⟩
       obtain ⟨h1, h2⟩ := f.2 _ (List.mem_cons_self ..); subst h1; subst h2
       cases r with
       | slv _ _ a hm => exact .slv _ _ a ((zc2 (f.get e2)).trans hm)
       | sl0 _ _ _ b z m o hm ho => exact .sl0 _ _ _ b z m o ((zc2 (f.get e2)).trans hm) ho
       | sl _ _ _ _ b z m cap hm hn hz ho => exact .sl _ _ _ _ b z m cap ((zc2 (f.get e2)).trans hm) hn hz ho
     · cases e
   · cases e
 · split at e
   · rename_i hz
     split at e
     · rename_i m1 hp
       have := za1 hz; subst this
       obtain ⟨e1, e2⟩ := zbf hp
       cases e
       refine ⟨e1.trans (.add _ _), fun F x f r => ?_⟩
       obtain ⟨h1, h2⟩ := f.2 _ (List.mem_cons_self ..); subst h1; subst h2
       cases r.less with
       | slv _ _ a hm => exact .slv _ _ a ((zc2 (f.get e2)).trans hm)
       | sl0 _ _ _ b z m o hm ho => exact .sl0 _ _ _ b z m o ((zc2 (f.get e2)).trans hm) ho
       | sl _ _ _ _ b z m cap hm hn hz ho => exact .sl _ _ _ _ b z m cap ((zc2 (f.get e2)).trans hm) hn hz ho
     · cases e
   · cases e
 · split at e
   · rename_i hz
     split at e
     · rename_i m1 hp
       have := za1 hz; subst this
       obtain ⟨e1, e2⟩ := zbf hp
       cases e
       refine ⟨e1.trans (.add _ _), fun F x f r => ?_⟩
       obtain ⟨h1, h2, h3⟩ := f.2 _ (List.mem_cons_self ..); subst h1; subst h2; subst h3
       cases r with
       | slcv _ _ a hm => exact .slcv _ _ a ((zc2 (f.get e2)).trans hm)
       | slc0 _ _ _ b z m o hm ho => exact .slc0 _ _ _ b z m o ((zc2 (f.get e2)).trans hm) ho
       | slc _ _ _ _ _ b z m hm hn hz ho => exact .slc _ _ _ _ _ b z m ((zc2 (f.get e2)).trans hm) hn hz ho
     · cases e
   · cases e
 · split at e
   · rename_i m1 hp
     obtain ⟨e1, e2⟩ := zme hp
     cases e
     refine ⟨e1.trans (.add _ _), fun F x f r => ?_⟩
     obtain ⟨h1, h2⟩ := f.2 _ (List.mem_cons_self ..); subst h1; subst h2
     cases r with | nils => exact .slv _ _ none (zu6 (f.getN e2))
   · cases e
 · split at e
   · rename_i hf hfr
     have := za1 hf; subst this
     cases e; refine ⟨.add _ _, fun F x f r => ?_⟩
     obtain ⟨h1, h2⟩ := f.2 _ (List.mem_cons_self ..); subst h1; subst h2
     exact (zcv r hfr).free
   · cases e
 · obtain ⟨e1, e2⟩ := zbf e
   refine ⟨e1, fun F x f r => ?_⟩
   cases r with | mp _ b z m hm => exact .mp _ b z m ((zc2 (f.get e2)).trans hm)
 · split at e
   · rename_i hp hz
     obtain rfl := za1 hp
     obtain rfl := za1 hz
     split at e
     · rename_i m1 hp
       obtain ⟨e1, e2⟩ := zbf hp
       cases e
       refine ⟨e1.trans (.add _ _), fun F x f r => ?_⟩
       obtain ⟨h1, h2, h3⟩ := f.2 _ (List.mem_cons_self ..); subst h1; subst h2; subst h3
       have e3 := (f.of (.add _ _)).get e2
       cases r with
       | aslv _ _ _ a hm => exact .aslv _ _ _ a ((zfb e3 _).trans hm)
       | asl0 _ _ _ _ b z m o hm ho => exact .asl0 _ _ _ _ b z m o ((zfb e3 _).trans hm) ho
       | asl _ _ _ _ _ b z m cap hm hn hz ho => exact .asl _ _ _ _ _ b z m cap ((zfb e3 _).trans hm) hn hz ho
     · cases e
   · cases e
 · split at e
   · rename_i hp hz ho
     obtain rfl := za1 hp
     obtain rfl := za1 hz
     obtain rfl := za1 ho
     split at e
     · rename_i m1 hp
       obtain ⟨e1, e2⟩ := zbf hp
       cases e
       refine ⟨e1.trans (.add _ _), fun F x f r => ?_⟩
       obtain ⟨h1, h2⟩ := f.2 _ (List.mem_cons_self ..); subst h1; subst h2
       have e3 := (f.of (.add _ _)).get e2
       cases r with
       | aer _ _ _ _ _ b z m hm hi => exact .aer _ _ _ _ _ b z m ((zfb e3 _).trans hm) hi
     · cases e
   · cases e
 · rename_i kk n has val kk' n' has' val'
   split at e
   · rename_i hk
     obtain rfl := of_decide_eq_true hk
     cases e; refine ⟨.add _ _, fun F x f r => ?_⟩
     obtain ⟨h1, h2, h3⟩ := f.2 _ (List.mem_cons_self ..)
     cases r with
     | mpi _ _ _ _ b es clock kf hD hb hn hk hr =>
       exact .mpi _ _ _ _ b es clock kf hD hb (hn.trans h1) (hk.turn h2) (fun i e he => by
         rw [<- h3 _ (by rw [<- h2]; exact (hk.key i e he).2)]; exact hr i e he)
   · cases e
 · split at e
   · rename_i hp hz ho
     obtain rfl := za1 hp
     obtain rfl := za1 hz
     obtain rfl := za1 ho
     split at e
     · rename_i m1 hp
       obtain ⟨e1, e2⟩ := zbf hp
       cases e
       refine ⟨e1.trans (.add _ _), fun F x f r => ?_⟩
       obtain ⟨h0, h1, h2⟩ := f.2 _ (List.mem_cons_self ..); subst h0; subst h1; subst h2
       have e3 := (f.of (.add _ _)).get e2
       cases r with
       | aepn => exact .aepn _ _ _ _ _
       | aepp _ _ _ _ _ b z m hm hi => exact .aepp _ _ _ _ _ b z m ((zfb e3 _).trans hm) hi
     · cases e
   · cases e
 · split at e
   · rename_i hp hz ho
     obtain rfl := za1 hp
     obtain rfl := za1 hz
     obtain rfl := za1 ho
     split at e
     · rename_i m1 hp
       obtain ⟨e1, e2⟩ := zbf hp
       cases e
       refine ⟨e1.trans (.add _ _), fun F x f r => ?_⟩
       obtain ⟨h0, h1, h2⟩ := f.2 _ (List.mem_cons_self ..); subst h0; subst h1; subst h2
       have e3 := (f.of (.add _ _)).get e2
       cases r with
       | aer _ _ _ _ _ b z m hm hi => exact .aepp _ _ _ _ _ b z m ((zfb e3 _).trans hm) hi
     · cases e
   · cases e
 · split at e
   · rename_i hp hz ho
     obtain rfl := za1 hp
     obtain rfl := za1 hz
     obtain rfl := za1 ho
     split at e
     · rename_i m1 hp
       obtain ⟨e1, e2⟩ := zbf hp
       cases e
       refine ⟨e1.trans (.add _ _), fun F x f r => ?_⟩
       obtain ⟨h0, h1, h2⟩ := f.2 _ (List.mem_cons_self ..); subst h0; subst h1; subst h2
       have e3 := (f.of (.add _ _)).get e2
       cases r with
       | aepp _ _ _ _ _ b z m hm hi => exact .aer _ _ _ _ _ b z m ((zfb e3 _).trans hm) hi
     · cases e
   · cases e
 · split at e
   · rename_i m1 hp
     obtain ⟨e1, e2⟩ := zbf hp
     cases e
     refine ⟨e1.trans (.add _ _), fun F x f r => ?_⟩
     have h0 := f.2 _ (List.mem_cons_self ..); subst h0
     cases r with
     | nilp => exact .aepn _ _ _ _ _
   · cases e
 · cases e
theorem zfd : ∀ {vs us : List AV} {m m' : zcm}, zht m vs us = some m' -> Ext m m' /\ vs.length = us.length /\ ∀ F, Fin m' F -> ∀ (i : Nat) v u x, vs[i]? = some v -> us[i]? = some u -> R h D μ u x -> R h D (zfm μ F) v x
 | [], [], m, m', e => by cases e; exact ⟨.refl _, rfl, fun F f i v u x hv => by simp at hv⟩
 | [], _ :: _, m, m', e => by cases e
 | _ :: _, [], m, m', e => by cases e
 | v :: vs, u :: us, m, m', e => by
   unfold zht at e
   split at e
   · rename_i m1 e1
     obtain ⟨x1, r1⟩ := zo3 (h := h) (D := D) (μ := μ) e1
     obtain ⟨x2, l2, r2⟩ := zfd e
     refine ⟨x1.trans x2, by simp [l2], fun F f i v' u' x hv hu r => ?_⟩
     cases i with
     | zero => simp at hv hu; subst hv; subst hu; exact r1 F x (f.of x2) r
     | succ i => exact r2 F f i v' u' x (by simpa using hv) (by simpa using hu) r
   · cases e
theorem zuf {m m' : zcm} {v u : AV} (e : zfq m v u = some m') : Ext m m' /\ ∀ F x, Fin m' F -> R h D μ u x -> R h D (zfm μ F) v x := by
 unfold zfq at e
 split at e
 · split at e
   · exact zo3 e
   · split at e
     · rename_i m1 hf e1
       obtain rfl := za1 hf
       obtain ⟨x1, l1, r1⟩ := zfd (h := h) (D := D) (μ := μ) e1
       obtain ⟨x2, l2, r2⟩ := zfd (h := h) (D := D) (μ := μ) e
       refine ⟨x1.trans x2, fun F x f r => ?_⟩
       cases r with
       | fn _ _ _ vs us e1 e2 h1 h2 =>
         refine .fn _ _ _ vs us (by rw [l1, e1]) (by rw [l2, e2]) (fun i v x hv hx => ?_) (fun i v x hv hx => ?_)
         · have hlt := (List.getElem?_eq_some_iff.1 hv).1
           have hu := List.getElem?_eq_getElem (show i < _ by rw [<- l1]; exact hlt)
           exact r1 F (f.of x2) i v _ x hv hu (h1 i _ x hu hx)
         · have hlt := (List.getElem?_eq_some_iff.1 hv).1
           have hu := List.getElem?_eq_getElem (show i < _ by rw [<- l2]; exact hlt)
           exact r2 F f i v _ x hv hu (h2 i _ x hu hx)
     · cases e
 · obtain ⟨x1, l1, r1⟩ := zfd (h := h) (D := D) (μ := μ) e
   refine ⟨x1, fun F x f r => ?_⟩
   obtain ⟨us, rfl, o1, s1, hr⟩ := r.inv_agg
   refine .agg _ _ (by rw [l1, s1]) o1 fun i v x hv hx => ?_
   obtain ⟨u, hu⟩ : ∃ u, (‹List AV› : List AV)[i]? = some u := by
     refine ⟨_, List.getElem?_eq_getElem ?_⟩
     rw [<- l1]; exact (List.getElem?_eq_some_iff.1 hv).1
   exact r1 F f i v u x hv hu (hr i u x hu hx)
 · exact zo3 e
theorem zef {slots : List (Nat × AV)} {a : Act} : ∀ {ts : List (Nat × AV)} {m m' : zcm}, zfy slots ts m = some m' -> Ext m m' /\ ∀ F, Fin m' F -> (∀ t v, za2 slots t = some v -> R h D μ v (a.tmps.getD t undef)) ->
   ∀ t v, za2 ts t = some v -> R h D (zfm μ F) v (a.tmps.getD t undef)
 | [], m, m', e => by cases e; exact ⟨.refl _, fun F f _ t v hv => by cases hv⟩
 | (t, v) :: r, m, m', e => by
   unfold zfy at e
   split at e
   · rename_i u hu
     split at e
     · rename_i m1 e1
       obtain ⟨x1, r1⟩ := zuf (h := h) (D := D) (μ := μ) e1
       obtain ⟨x2, r2⟩ := zef e
       refine ⟨x1.trans x2, fun F f hs t' v' hv => ?_⟩
       unfold za2 at hv
       split at hv
       · rename_i hb; cases hv; rw [<- za1 hb]; exact r1 F _ (f.of x2) (hs _ _ hu)
       · exact r2 F f hs t' v' hv
     · cases e
   · cases e
theorem ygc {m m' : zcm} {v u : AV} (e : yl2 m u v = some m') : Ext m m' /\ ∀ F x, Fin m' F -> R h D zar u x -> R h D (zfm μ F) v x := by
 unfold yl2 at e
 split at e
 · cases e; exact ⟨.refl _, fun F x f r => .dead _⟩
 · split at e
   · rename_i m1 hp
     obtain ⟨e1, e2⟩ := zme hp
     cases e
     refine ⟨e1.trans (.add _ _), fun F x f r => ?_⟩
     obtain ⟨h1, h2, h3⟩ := f.2 _ (List.mem_cons_self ..)
     subst h1; subst h2; subst h3
     cases r with | nils => exact .slv _ _ none (zu6 (f.getN e2))
   · cases e
 · split at e
   · rename_i x hp
     cases e
     refine ⟨.add _ _, fun F x f r => ?_⟩
     have h1 := f.2 _ (List.mem_cons_self ..)
     subst h1
     exact r.free
   · cases e
theorem zq2 {y : Nat -> AV} : ∀ {vs : List AV} {j : Nat} {m m' : zcm}, zuc m y j vs = some m' -> Ext m m' /\ ∀ F, Fin m' F -> ∀ (i : Nat) v x, vs[i]? = some v -> R h D zar (y (j + i)) x -> R h D (zfm μ F) v x
 | [], j, m, m', e => by cases e; exact ⟨.refl _, fun F f i v x hv => by simp at hv⟩
 | v :: vs, j, m, m', e => by
   unfold zuc at e
   split at e
   · rename_i m1 e1
     obtain ⟨x1, r1⟩ := ygc (h := h) (D := D) (μ := μ) e1
     obtain ⟨x2, r2⟩ := zq2 e
     refine ⟨x1.trans x2, fun F f i v' x hv r => ?_⟩
     cases i with
     | zero => simp at hv; subst hv; exact r1 F x (f.of x2) r
     | succ i => exact r2 F f i v' x (by simpa using hv) (by rw [show j + 1 + i = j + (i + 1) by omega]; exact r)
   · cases e
theorem zue : ∀ {l l' : List (Ky × AV)}, yge l l' = true -> l.map Prod.fst = l'.map Prod.fst
 | [], [], _ => rfl
 | [], _ :: _, e => by cases e
 | _ :: _, [], e => by cases e
 | (k, x) :: l, (k', x') :: l', e => by
   unfold yge at e
   split at e
   · rename_i h; simp only [List.map_cons, zue e]; rw [show k = k' from zku h]
   · cases e
theorem zmm : ∀ {l l' : List (Ky × AV)}, l.map Prod.fst = l'.map Prod.fst -> ∀ {q}, (zbe l q).isSome = (zbe l' q).isSome
 | [], [], _, _ => rfl
 | [], _ :: _, e, _ => by cases e
 | _ :: _, [], e, _ => by cases e
 | (k, x) :: l, (k', x') :: l', e, q => by
   simp only [List.map_cons, List.cons.injEq] at e
   obtain ⟨rfl, e⟩ := e
   simp only [zbe]
   cases kyb k q
   · exact zmm e
   · rfl
theorem zmn : ∀ {l l' : List (Ky × AV)}, l.map Prod.fst = l'.map Prod.fst -> ∀ {q y}, zbe l' q = some y -> ∃ (j : Nat) (v u : AV), (zcn Prod.snd l)[j]? = some v /\ (zcn Prod.snd l')[j]? = some u /\ zbe l q = some v /\ u = y
 | [], [], _, _, _, e => by cases e
 | [], _ :: _, e, _, _, _ => by cases e
 | _ :: _, [], e, _, _, _ => by cases e
 | (k, x) :: l, (k', x') :: l', e, q, y, hy => by
   simp only [List.map_cons, List.cons.injEq] at e
   obtain ⟨rfl, e⟩ := e
   simp only [zbe] at hy |-
   cases hk : kyb k q with
   | true => rw [hk] at hy; cases hy; exact ⟨0, x, x', rfl, rfl, rfl, rfl⟩
   | false =>
     rw [hk] at hy
     obtain ⟨j, v, u, h1, h2, h3, h4⟩ := zmn e hy
     exact ⟨j + 1, v, u, h1, h2, h3, h4⟩
theorem ybr {m m' : zcm} {v u : Ob} (e : zko m v u = some m') : Ext m m' /\ v ≠ .gone /\ u ≠ .gone /\ ∀ F x, Fin m' F -> zdg h D μ u x -> zdg h D (zfm μ F) v x := by
 unfold zko at e
 split at e
 · rename_i ty us' ty' us
   split at e
   · rename_i hty
     obtain rfl := za1 hty
     obtain ⟨x1, l1, r1⟩ := zfd (h := h) (D := D) (μ := μ) e
     refine ⟨x1, by simp, by simp, fun F x f ho => ?_⟩
     match x, ho with
     | some (b, z, mm), ⟨c, t, fr, e1, e2, e3, e4, e5, e6⟩ =>
       refine ⟨c, t, fr, e1, e2, e3, e4, by rw [l1, e5], fun i v x hv hx => ?_⟩
       obtain ⟨u, hu⟩ : ∃ u, us[i]? = some u := by
         refine ⟨_, List.getElem?_eq_getElem ?_⟩
         rw [<- l1]; exact (List.getElem?_eq_some_iff.1 hv).1
       exact r1 F f i v u x hv hu (e6 i u x hu hx)
   · cases e
 · split at e
   · rename_i hty hz
     have := za1 hz; subst this
     obtain rfl := za1 hty
     cases e
     refine ⟨.add _ _, by simp, by simp, fun F x f ho => ?_⟩
     obtain ⟨h1, h2⟩ := f.2 _ (List.mem_cons_self ..); subst h1
     match x, ho with
     | some (b, z, mm), ⟨e0, c, t, fr, e1, e2, e3, e4, e5⟩ =>
       exact ⟨e0, c, t, fr, e1, e2, e3, e4, fun i j hi hj => by
         obtain ⟨v, v1, v2, v3⟩ := e5 i j hi hj
         exact ⟨v, v1, v2, by rw [<- h2 i j hi hj]; exact v3⟩⟩
     | none, ho => exact ho
   · cases e
 · split at e
   · rename_i hq hty hz
     obtain rfl := za1 hq
     obtain rfl := za1 hty
     obtain rfl := za1 hz
     split at e
     · rename_i m1 hp
       obtain ⟨x1, x2⟩ := zbf hp
       cases e
       refine ⟨x1.trans (.add _ _), by simp, by simp, fun F x f ho => ?_⟩
       obtain ⟨h1, h2⟩ := f.2 _ (List.mem_cons_self ..); subst h1
       have x3 := (f.of (.add _ _)).get x2
       match x, ho with
       | some (b, z, mm), ⟨e0, c, t, fr, e1, e2, e3, e4, e5⟩ =>
         exact ⟨e0, c, t, fr, e1, e2, e3, e4, fun i j hi hj => by
           obtain ⟨v, v1, v2, v3⟩ := e5 i j hi hj
           exact ⟨v, v1, v2, by rw [<- h2 i j hi hj]; exact v3.mono (fun _ _ => rfl) (fun _ h => h) (zrw x3)⟩⟩
       | none, ho => exact ho
     · cases e
   · cases e
 · split at e
   · rename_i hty hz
     obtain rfl := za1 hty
     obtain rfl := za1 hz
     cases e
     refine ⟨.add _ _, by simp, by simp, fun F x f ho => ?_⟩
     obtain ⟨h1, h2⟩ := f.2 _ (List.mem_cons_self ..); subst h1
     match x, ho with
     | some (b, z, mm), ⟨e0, c, t, fr, e1, e2, e3, e4, e5⟩ =>
       exact ⟨e0, c, t, fr, e1, e2, e3, e4, fun i j hi hj => by
         obtain ⟨v, v1, v2, v3⟩ := e5 i j hi hj
         exact ⟨v, v1, v2, by rw [<- h2 i j hi hj]; exact v3.free⟩⟩
     | none, ho => exact ho
   · cases e
 · split at e
   · cases e
     refine ⟨.add _ _, by simp, by simp, fun F x f ho => ?_⟩
     match x, ho with
     | none, _ => exact trivial
     | some y, ho => exact ho
   · cases e
 · rename_i ty cs ty' cs'
   split at e
   · rename_i hty hl
     obtain rfl := za1 hty
     have hl := zb2 hl
     rw [zai, zai] at hl
     obtain ⟨x1, l1, r1⟩ := zfd (h := h) (D := D) (μ := μ) e
     rw [zai, zb6] at r1
     refine ⟨x1, by simp, by simp, fun F x f ho => ?_⟩
     match x, ho with
     | some (b, z, mm), ⟨c, t, fr, e1, e2, e3, e4, e5⟩ =>
       refine ⟨c, t, fr, e1, e2, e3, by omega, fun i v hv => ?_⟩
       have hi := (List.getElem?_eq_some_iff.1 hv).1
       have hu : cs'[i]? = some (cs'[i]'(by omega)) := by simp
       obtain ⟨x, x1, x2, x3⟩ := e5 i _ hu
       exact ⟨x, x1, x2, r1 F f i v _ x hv (by rw [List.getElem?_take, if_pos hi]; exact hu) x3⟩
     | none, ho =>
       have ho : cs' = [] := ho
       subst ho
       show cs = []
       exact List.eq_nil_of_length_eq_zero (by simpa using hl)
   · cases e
 · rename_i kk n has val kk' n' has' val'
   split at e
   · rename_i hk
     obtain rfl := of_decide_eq_true hk
     cases e
     refine ⟨.add _ _, by simp, by simp, fun F x f ho => ?_⟩
     obtain ⟨h1, h2, h3⟩ := f.2 _ (List.mem_cons_self ..)
     match x, ho with
     | some (b, z), ⟨es, clock, kf, hb, hn, hk, hr⟩ =>
       exact ⟨es, clock, kf, hb, hn.trans h1, hk.turn h2, fun i e he => by
         rw [<- h3 _ (by rw [<- h2]; exact (hk.key i e he).2)]; exact hr i e he⟩
   · cases e
 · rename_i q q'
   cases e
   refine ⟨.add _ _, by simp, by simp, fun F x f ho => ?_⟩
   have h1 := f.2 _ (List.mem_cons_self ..)
   match x, ho with
   | some (b, z), ⟨es, clock, hb, he⟩ => exact ⟨es, clock, hb, fun hq => he (h1 hq)⟩
 · split at e
   · rename_i hq hz
     obtain rfl := za1 hq
     obtain rfl := za1 hz
     split at e
     · rename_i m1 hp
       obtain ⟨x1, x2⟩ := zbf hp
       cases e
       refine ⟨x1.trans (.add _ _), by simp, by simp, fun F x f ho => ?_⟩
       have h1 := f.2 _ (List.mem_cons_self ..); subst h1
       have x3 := (f.of (.add _ _)).get x2
       match x, ho with
       | some (b, z), ⟨r0, es, clock, kf, e1, e2, e3, e4, e5⟩ =>
         exact ⟨r0, es, clock, kf, e1, e2, e3, e4, fun i x hx => (e5 i x hx).mono (fun _ _ => rfl) (fun _ h => h) (zrw x3)⟩
     · cases e
   · cases e
 · split at e
   · rename_i hq hz
     obtain rfl := za1 hq
     obtain rfl := za1 hz
     split at e
     · rename_i m1 hp
       obtain ⟨x1, x2⟩ := zbf hp
       cases e
       refine ⟨x1.trans (.add _ _), by simp, by simp, fun F x f ho => ?_⟩
       have h1 := f.2 _ (List.mem_cons_self ..); subst h1
       have x3 := (f.of (.add _ _)).get x2
       match x, ho with
       | some (b, z), ⟨r0, es, clock, kf, e1, e2, e3⟩ =>
         exact ⟨r0, es, clock, kf, e1, fun i x hx => by
           obtain ⟨k1, k2, k3⟩ := e2 i x hx
           exact ⟨k1.mono (fun _ _ => rfl) (fun _ h => h) (zrw x3), k2, k3⟩, e3⟩
     · cases e
   · cases e
 · rename_i kk l kk' l'
   split at e
   · rename_i hk hl
     obtain rfl := of_decide_eq_true hk
     have hl := zue hl
     obtain ⟨x1, l1, r1⟩ := zfd (h := h) (D := D) (μ := μ) e
     refine ⟨x1, by simp, by simp, fun F x f ho => ?_⟩
     match x, ho with
     | some (b, z), ⟨es, clock, kf, hb, hn, hks, hnd, hr⟩ =>
       have hlen : l'.length = l.length := by have := congrArg List.length hl; simpa using this.symm
       refine ⟨es, clock, kf, hb, hn.trans hlen, hks.turn fun k => ?_, by rw [hl]; exact hnd, fun i e he => ?_⟩
       · rw [zmm hl]
       · obtain ⟨y, y1, y2⟩ := hr i e he
         obtain ⟨j, v, u, v1, v2, v3, v4⟩ := zmn hl y1
         subst v4
         exact ⟨v, v3, r1 F f j v _ e.val v1 v2 y2⟩
   · cases e
 · rename_i ty cs ty' sz n get
   split at e
   · rename_i hty
     obtain rfl := za1 hty
     split at e
     · rename_i m1 hm
       cases e
       obtain ⟨x1, r1⟩ := zq2 (h := h) (D := D) (μ := μ) hm
       refine ⟨x1.trans (.add _ _), by simp, by simp, fun F x f ho => ?_⟩
       have hle := f.2 _ (List.mem_cons_self ..)
       rw [zai] at hle
       match x, ho with
       | some (b, z, mm), ⟨e0, c, t, fr, e1, e2, e3, e4, e5⟩ =>
         refine ⟨c, t, fr, e1, e2, ⟨e3.1, e3.2.1⟩, by omega, fun i v hv => ?_⟩
         have hi := (List.getElem?_eq_some_iff.1 hv).1
         have hs : 0 < sz := by
           rcases Nat.eq_zero_or_pos sz with h0 | h0
           · rw [h0] at hle; omega
           · exact h0
         obtain ⟨x, x1, x2, x3⟩ := e5 (i / sz) (i % sz) (Nat.div_lt_of_lt_mul (by rw [Nat.mul_comm]; omega)) (Nat.mod_lt _ hs)
         rw [show i / sz * sz + i % sz = i by rw [Nat.mul_comm]; exact Nat.div_add_mod i _] at x1
         refine ⟨x, x1, x2, r1 F (f.of (.add _ _)) i v x hv ?_⟩
         rw [Nat.zero_add, yh8 _ _ _ hs]
         exact x3
       | none, ho =>
         have ho : n = 0 := ho
         subst ho
         show cs = []
         exact List.eq_nil_of_length_eq_zero (by omega)
     · cases e
   · cases e
 · cases e
theorem zx1 {m m' : zcm} {v : Ob} (e : zkp m v = some m') : Ext m m' /\ v ≠ .gone /\ ∀ F, Fin m' F -> zdg h D (zfm μ F) v none := by
 unfold zkp at e
 split at e
 · cases e
   refine ⟨.add _ _, by simp, fun F f => ?_⟩
   exact (f.2 _ (List.mem_cons_self ..)).symm
 · cases e
   refine ⟨.add _ _, by simp, fun F f => ?_⟩
   exact (f.2 _ (List.mem_cons_self ..)).symm
 · cases e
   exact ⟨.refl _, by simp, fun F f => rfl⟩
 · cases e
def zgb (o o' : Ob) : Prop := zau o' = zau o /\ ∀ ty sz n len get, o = .tab ty sz n len get -> ∃ len' get', o' = .tab ty sz n len' get' /\ (∀ k, k < n -> len' k = len k) /\ ∀ k i j, k < n -> i < len k -> j < sz -> get' k i j = get k i j
theorem zx0 {m m' : zcm} {v u : Ob} (e : zko m v u = some m') {F : List (Nat × Option Nat)} (f : Fin m' F) : zgb v u := by
 have no : ∀ {v u : Ob}, zau v = false -> zau u = false -> zgb v u := fun h1 h2 => ⟨by rw [h1, h2], fun ty sz n len get e => by rw [e] at h1; cases h1⟩
 cases v with
 | tab ty sz n len get =>
   cases u with
   | tab ty' sz' n' len' get' =>
     simp only [zko] at e
     split at e
     · rename_i h1 h2
       obtain rfl := za1 h1
       obtain rfl := za1 h2
       cases e
       obtain ⟨q1, q2, q3⟩ := f.2 _ (List.mem_cons_self ..)
       subst q1
       refine ⟨rfl, fun ty2 sz2 n2 len2 get2 e2 => ?_⟩
       cases e2
       exact ⟨len', get', rfl, q2, q3⟩
     · cases e
   | _ => cases e
 | _ => cases u <;> first | exact no rfl rfl | (exfalso; revert e; simp [zko])
theorem zs8 {m m' : zcm} {v : Ob} (e : zkp m v = some m') : zau v = false := by
 cases v with
 | tab => simp [zkp] at e
 | _ => rfl
structure yqk (h : Array Obj) (D : Nat -> Prop) (μ : Mu) (s : St) (ice : List Nat) (F : List (Nat × Option Nat)) (tid : Nat) (o : Ob) : Prop where
 live : o ≠ .gone
 pair : ∃ x, za2 F tid = some x /\ match x with
   | some id => (zbp s.ice id = true -> zbp ice tid = true) /\ ∃ o', za2 s.objs id = some o' /\ o' ≠ .gone /\ ∀ y, zdg h D μ o' y -> zdg h D (zfm μ F) o y
   | none => zdg h D (zfm μ F) o none
 tb : ∀ id, za2 F tid = some (some id) -> ∃ o', za2 s.objs id = some o' /\ zgb o o'
 nt : za2 F tid = some none -> zau o = false
theorem ze2 {s : St} {ice : List Nat} : ∀ {ts : List (Nat × Ob)} {m m' : zcm}, zh5 s ice ts m = some m' -> Ext m m' /\ ∀ F, Fin m' F -> ∀ tid o, za2 ts tid = some o -> yqk h D μ s ice F tid o
 | [], m, m', e => by cases e; exact ⟨.refl _, fun F f t o ho => by cases ho⟩
 | (tid, o) :: r, m, m', e => by
   unfold zh5 at e
   split at e
   · rename_i id hid
     have key : ∀ o' m1, za2 s.objs id = some o' -> zko m o o' = some m1 -> zh5 s ice r m1 = some m' -> (zbp s.ice id = true -> zbp ice tid = true) -> Ext m m' /\ ∀ F, Fin m' F -> ∀ t o1, za2 ((tid, o) :: r) t = some o1 -> yqk h D μ s ice F t o1 := by
       intro o' m1 ho' hm e hice
       obtain ⟨x1, n1, n2, r1⟩ := ybr (h := h) (D := D) (μ := μ) hm
       obtain ⟨x2, r2⟩ := ze2 e
       refine ⟨x1.trans x2, fun F f t o1 ht => ?_⟩
       unfold za2 at ht
       split at ht
       · rename_i hb
         have := za1 hb; subst this
         cases ht
         have hF := f.1 _ _ (x2.ids _ _ (x1.ids _ _ hid))
         exact ⟨n1, ⟨some id, hF, hice, o', ho', n2, fun y hy => r1 F y (f.of x2) hy⟩, fun id2 h2 => by rw [hF] at h2; cases h2; exact ⟨o', ho', zx0 hm (f.of x2)⟩, fun h2 => by rw [hF] at h2; cases h2⟩
       · exact r2 F f t o1 ht
     split at e
     · cases e
     · rename_i hno
       split at e
       · rename_i o' ho'
         split at e
         · rename_i m1 hm
           refine key o' m1 ho' hm e fun hi => ?_
           cases hti : zbp ice tid with
           | true => rfl
           | false => exact absurd hti (hno hi)
         · cases e
       · cases e
   · rename_i hid
     split at e
     · rename_i m1 hm
       obtain ⟨x1, n1, r1⟩ := zx1 (h := h) (D := D) (μ := μ) hm
       obtain ⟨x2, r2⟩ := ze2 e
       refine ⟨x1.trans x2, fun F f t o1 ht => ?_⟩
       unfold za2 at ht
       split at ht
       · rename_i hb
         have := za1 hb; subst this
         cases ht
         have hF := f.1 _ _ (x2.ids _ _ (x1.ids _ _ hid))
         exact ⟨n1, ⟨none, hF, r1 F (f.of x2)⟩, fun id2 h2 => (by rw [hF] at h2; cases h2), fun _ => zs8 hm⟩
       · exact r2 F f t o1 ht
     · cases e
   · cases e
end
theorem zhk {l : List Nat} {t : Nat} {x : Option Nat} (h : za2 (zpk l) t = some x) : x = some t := by
 induction l with
 | nil => simp [zpk, za2] at h
 | cons a l ih =>
   unfold zpk za2 at h
   split at h
   · rename_i e; cases h; rw [za1 e]
   · exact ih h
theorem zl0 {objs : List (Nat × Ob)} : ∀ {l : List (Nat × Option Nat)}, ycd objs l = true -> ∀ t x, za2 l t = some x -> za2 objs t ≠ none
 | [], _, t, x, h => by cases h
 | (k, y) :: l, e, t, x, h => by
   unfold ycd at e
   split at e
   · rename_i o ho
     unfold za2 at h
     split at h
     · rename_i hb; rw [<- za1 hb]; simp only at ho; rw [ho]; simp
     · exact zl0 e t x h
   · cases e
theorem zl4 {objs : List (Nat × Ob)} : ∀ {l : List Nat}, yh0 objs l = true -> ∀ t, zbp l t = true -> za2 objs t ≠ none
 | [], _, t, h => by cases h
 | k :: l, e, t, h => by
   unfold yh0 at e
   split at e
   · rename_i o ho
     unfold zbp at h
     split at h
     · rename_i hb; rw [<- za1 hb, ho]; simp
     · exact zl4 e t h
   · cases e
end Sy
end Go.Proofs.Ytogomcfgfnlclaa
