/-The symbolic executor: indexes, slices, function values, loads. The symbolic executor: slices of slices and of yeu. The symbolic executor: built values, new blocks; and what stands between these and the texts behind.-/
import Derived.Test.YtogomcfgfnlclaaM1
import Derived.Laws.Tables
import Derived.Laws.MakeOwn
namespace Go.Proofs.Ytogomcfgfnlclaa
namespace Sy
open Go Go.RowKit
set_option linter.unusedSimpArgs false
set_option linter.unusedVariables false
section
variable {h : Array Obj} {D : Nat -> Prop} {μ : Mu}
theorem zb8 {x : AV} {v : Value} (r : R h D μ x v) (e : zki x = true) : R h D zar x v := by
 cases r with
 | dead v => exact .dead _
 | bool b => exact .bool _
 | int k n => exact .int _ _
 | str l s e' => exact .str _ _ e'
 | flt k b => exact .flt _ _
 | cpx k a b => exact .cpx _ _ _
 | nilp => exact .nilp
 | nilm => exact .nilm
 | nilf => exact .nilf
 | nils => exact .nils
 | nili => exact .nili
 | ifn => exact .ifn
 | ifs t p => exact .ifs t p
 | emp a cap => exact .emp _ _
 | emz a => exact .emz _
 | lst0 sz get a cap hn => exact .lst0 _ _ _ _ hn
 | lst sz n get b o cap vs hD hc hv h1 hr => exact .lst _ _ _ b o cap vs hD hc hv h1 hr
 | lstx sz n get a r => exact .lstx _ _ _ a (zs9 r)
 | iptr n get b o vs hD hv h1 hr => exact .iptr _ _ b o vs hD hv h1 hr
 | arr n get vs e0 h1 hr => exact .arr n get vs e0 h1 hr
 | mpi kk n has val b es clock kf hD hb hn hk hr => exact .mpi kk n has val b es clock kf hD hb hn hk hr
 | _ => cases e
theorem zik : ∀ {xs : List AV}, zhm xs = true -> ∀ (i : Nat) x, xs[i]? = some x -> zki x = true
 | x :: xs, e, i, y, hy => by
   simp only [zhm] at e
   split at e
   · rename_i h1
     cases i with
     | zero => simp at hy; subst hy; exact h1
     | succ i => exact zik e i y (by simpa using hy)
   · cases e
theorem zcv {x : AV} {v : Value} (r : R h D μ x v) (e : zl8 x = true) : R h D zar x v := by
 cases r with
 | fn f xs ys vs us e1 e2 h1 h2 =>
   simp only [zl8] at e
   split at e
   · rename_i e'
     exact .fn f xs ys vs us e1 e2 (fun i x v hx hv => zb8 (h1 i x v hx hv) (zik e' i x hx)) (fun i x v hx hv => zb8 (h2 i x v hx hv) (zik e i x hx))
   · cases e
 | agg cs vs e1 h1 hr => cases e
 | tup cs vs e1 hr => cases e
 | ref => cases e
 | eref => cases e
 | slv => cases e
 | sl0 => cases e
 | sl => cases e
 | slcv => cases e
 | slc0 => cases e
 | slc => cases e
 | aer => cases e
 | aepn => cases e
 | aepp => cases e
 | aslv => cases e
 | asl0 => cases e
 | asl => cases e
 | dead v => exact .dead _
 | bool b => exact .bool _
 | int k n => exact .int _ _
 | str l s e' => exact .str _ _ e'
 | flt k b => exact .flt _ _
 | cpx k a b => exact .cpx _ _ _
 | nilp => exact .nilp
 | nilm => exact .nilm
 | nilf => exact .nilf
 | nils => exact .nils
 | nili => exact .nili
 | ifn => exact .ifn
 | ifs t p => exact .ifs t p
 | emp a cap => exact .emp _ _
 | emz a => exact .emz _
 | lst0 sz get a cap hn => exact .lst0 _ _ _ _ hn
 | lst sz n get b o cap vs hD hc hv h1 hr => exact .lst _ _ _ b o cap vs hD hc hv h1 hr
 | lstx sz n get a r => exact .lstx _ _ _ a (zs9 r)
 | iptr n get b o vs hD hv h1 hr => exact .iptr _ _ b o vs hD hv h1 hr
 | arr n get vs e0 h1 hr => exact .arr n get vs e0 h1 hr
 | mp => cases e
 | bidx => cases e
 | mpi kk n has val b es clock kf hD hb hn hk hr => exact .mpi kk n has val b es clock kf hD hb hn hk hr
theorem zc4 : ∀ {xs : List AV}, zi3 xs = true -> ∀ (i : Nat) x, xs[i]? = some x -> zl8 x = true
 | x :: xs, e, i, y, hy => by
   simp only [zi3] at e
   split at e
   · rename_i h1
     cases i with
     | zero => simp at hy; subst hy; exact h1
     | succ i => exact zc4 e i y (by simpa using hy)
   · cases e
end
theorem zta : ∀ {cs : List AV} {k : IntKind} {l : List Int}, yn8 cs = some (k, l) -> ∀ i, i < cs.length -> cs[i]? = some (.int k (l.getD i 0))
 | [.int k n], k', l, e, i, hi => by
   simp [yn8] at e
   obtain ⟨rfl, rfl⟩ := e
   have : i = 0 := by simpa using hi
   subst this; rfl
 | .int k n :: y :: xs, k', l, e, i, hi => by
   simp only [yn8] at e
   split at e
   · rename_i k2 l2 h2
     split at e
     · rename_i hk
       obtain rfl : k = k2 := of_decide_eq_true hk
       simp only [Option.some.injEq, Prod.mk.injEq] at e
       obtain ⟨rfl, rfl⟩ := e
       cases i with
       | zero => rfl
       | succ i =>
         have := zta h2 i (by simpa using hi)
         simpa using this
     · cases e
   · cases e
theorem zt9 : ∀ {cs : List AV} {l : List (List UInt8)}, yn7 cs = some l -> ∀ i, i < cs.length -> cs[i]? = some (.str (l.getD i []))
 | [.str s], l, e, i, hi => by
   simp [yn7] at e
   subst e
   have : i = 0 := by simpa using hi
   subst this; rfl
 | .str s :: y :: xs, l, e, i, hi => by
   simp only [yn7] at e
   split at e
   · rename_i l2 h2
     cases e
     cases i with
     | zero => rfl
     | succ i =>
       have := zt9 h2 i (by simpa using hi)
       simpa using this
   · cases e
theorem zeq {cs : List AV} {sz n : Nat} (hl : n * sz <= cs.length) {i j : Nat} (hi : i < n) (hj : j < sz) : cs[i * sz + j]? = some (zii std cs sz i j) := by
 have hlt : i * sz + j < cs.length := by
   have h1 : (i + 1) * sz <= n * sz := Nat.mul_le_mul_right _ hi
   rw [Nat.add_mul] at h1
   omega
 unfold zii
 split
 · obtain rfl : j = 0 := by omega
   rw [Nat.mul_one, Nat.add_zero] at *
   cases hu : yn8 cs with
   | some kl =>
     obtain ⟨k, l⟩ := kl
     exact zta hu i hlt
   | none =>
     cases hu' : yn7 cs with
     | some l => exact zt9 hu' i hlt
     | none => exact zak _ _ _ hlt
 · cases he : ys8 cs with
   | true =>
     have hl4 : cs.length = 4 := by
       unfold ys8 at he
       split at he
       · rfl
       · cases he
     have hn : i = 0 := by omega
     subst hn
     rw [Nat.zero_mul, Nat.zero_add] at hlt |-
     exact zak _ _ _ hlt
   | false => exact zak _ _ _ hlt
 · exact zak _ _ _ hlt
theorem zdy {i n : Int} (h : L2 std inR i n = true) : 0 <= i /\ i < n := by simpa [L2, std, inR] using h
theorem getD_some {cs : Array Value} {i : Nat} (h : i < cs.size) : cs[i]? = some (cs.getD i undef) := by simp [h]
theorem yh8 (get : Nat -> Nat -> AV) (sz q : Nat) (hs : 0 < sz) : zy6 get sz q = get (q / sz) (q % sz) := by
 unfold zy6
 split
 · simp [Nat.mod_one]
 · rfl
theorem zeg {α : Type} (k : Nat -> α) : ∀ (n i j : Nat), (zln k i n)[j]? = if j < n then some (k (i + j)) else none
 | 0, i, j => by simp [zln]
 | n + 1, i, 0 => by simp [zln]
 | n + 1, i, j + 1 => by
   simp only [zln, List.getElem?_cons_succ, zeg k n (i + 1) j, Nat.add_lt_add_iff_right]
   rw [show i + 1 + j = i + (j + 1) by omega]
theorem zgj {α : Type} (k : Nat -> α) : ∀ (n i : Nat), (zln k i n).length = n
 | 0, i => rfl
 | n + 1, i => by simp [zln, zgj k n]
theorem zxx {h : Array Obj} {D : Nat -> Prop} {μ : Mu} {n : Nat} {k : Nat -> AV} {v : Value} (r : R h D zar (.agg (zln k 0 n)) v) : R h D μ (.arr n k) v := by
 obtain ⟨us, rfl, o1, e, hr⟩ := r.inv_agg
 rw [zgj] at e
 refine .arr n k us e o1 fun i v hv => ?_
 have hi : i < n := by rw [e]; exact (Array.getElem?_eq_some_iff.1 hv).1
 refine hr i _ v ?_ hv
 rw [zeg, if_pos hi, Nat.zero_add]
section
variable {P : Program} {T : TT} {base : Nat} {M : Two} {W : World} {nt : Nat} {f : Nat -> Option AV} {g : Nat -> Option Ob} {c : Nat -> Bool} {a : Act} {w : World} {D : Nat -> Prop} {μ : Mu} {o : Oper}
theorem zeh (hT : zbd P T) {t : Nat} {i : TI} (hi : T.find t = some i) (b o' : Nat) (vs : Nat -> Value) (xs : Nat -> AV) (hv : ∀ j, j < i.sz -> hcell w.heap b (o' + j) = some (vs j)) (h1 : ∀ j, j < i.sz -> one (vs j))
   (hr : ∀ j, j < i.sz -> R w.heap D μ (xs j) (vs j)) (hs : i.isAgg = false -> 0 < i.sz) :
   ∃ u, (Instr.loadAt t (.pointer (some ⟨b, o', none⟩))).run P w = .ok u w /\ R w.heap D μ (match i.isAgg with | true => .agg (zln xs 0 i.sz) | false => xs 0) u := by
 have ok := hT t i hi
 unfold Instr.loadAt Instr.sureAddr loadVar
 simp only [Sem.run_bind, Sem.run_pure, Result.andThen_ok, ok.isAgg_]
 cases hag : i.isAgg with
 | true =>
   have hl := run_loadCells (P := P) w ⟨b, o', none⟩ i.sz vs (fun j hj => by rw [zbb, zel]; exact hv j hj)
   refine ⟨.agg ((List.range i.sz).map vs).toArray, by simp [ok.sizeOf, hl], .agg _ _ (by simp [zgj]) (fun j v hj => ?_) (fun j x v hx hj => ?_)⟩
   · by_cases hjl : j < i.sz
     · simp [hjl] at hj
       exact hj ▸ h1 _ hjl
     · simp [hjl] at hj
   · rw [zeg] at hx
     split at hx
     · rename_i hjl
       cases hx
       simp [hjl] at hj
       subst hj
       rw [Nat.zero_add]
       exact hr j hjl
     · cases hx
 | false =>
   have := hs hag
   refine ⟨vs 0, ?_, hr 0 this⟩
   have hc := hv 0 this
   rw [Nat.add_zero] at hc
   simp [run_load, zel, hc]
variable (h : Sim base M W nt f g c a w D μ) (hd : ∀ d, o.dst = some d -> d < nt)
include h hd
theorem zzv {fn : Fn} {xs ys : Array Operand} (e : o.op = .makeFunc fn xs ys) {vals : List AV} (hv : Ops w.heap D μ a (xs.toList ++ ys.toList) vals) : zbw P base M W nt f g c o a w (ymq fn xs.size vals) := by
 unfold ymq
 split
 · rename_i k
   have key : ∀ (l : List Operand) (vals : List AV), Ops w.heap D μ a l vals -> vals.length = l.length /\ ∀ (i : Nat) x y, vals[i]? = some x -> l[i]? = some y -> R w.heap D μ x (a.eval y) := by
     intro l
     induction l with
     | nil => intro vals hv; cases vals with
       | nil => exact ⟨rfl, fun i x y h => by simp at h⟩
       | cons _ _ => exact hv.elim
     | cons z l ih => intro vals hv; cases vals with
       | nil => exact hv.elim
       | cons v vs =>
         obtain ⟨h1, h2⟩ := ih vs hv.2
         refine ⟨by simp [h1], fun i x y hx hy => ?_⟩
         cases i with
         | zero => simp at hx hy; subst hx; subst hy; exact hv.1
         | succ i => exact h2 i x y (by simpa using hx) (by simpa using hy)
   obtain ⟨k1, k2⟩ := key _ _ hv
   simp at k1
   refine za0 h hd (u := .func (.func k) (xs.map a.eval) (ys.map a.eval)) (by unfold execOp; rw [e]; rfl) (.fn _ _ _ _ _ ?_ ?_ (fun i x v hx hv => ?_) (fun i x v hx hv => ?_))
   · rw [zb6, List.length_take, Array.size_map]; omega
   · rw [zbi, List.length_drop, Array.size_map]; omega
   · rw [zb6, List.getElem?_take] at hx
     split at hx
     · rename_i hlt
       simp [hlt] at hv
       subst hv
       exact k2 i x _ hx (by rw [List.getElem?_append_left (by simpa using hlt)]; simp [hlt])
     · cases hx
   · rw [zbi, List.getElem?_drop] at hx
     by_cases hlt : i < ys.size
     · simp [hlt] at hv
       subst hv
       refine k2 _ x _ hx ?_
       rw [List.getElem?_append_right (by simp)]
       simp [hlt]
     · simp [hlt] at hv
 · trivial
theorem zwb (hT : zbd P T) {t : TypeId} {x y : Operand} (e : o.op = .indexAddr t x y) {vals : List AV} (hv : Ops w.heap D μ a [x, y] vals) {ob : Nat -> Option Ob} (hob : ∀ id z, ob id = some z -> g id = some z) :
   zbw P base M W nt f g c o a w (ydo T std t ob vals) := by
 match vals, hv with
 | [v, v'], ⟨hx, hy, _⟩ =>
   have run : ∀ u, (Instr.indexAt t (a.eval x) (a.eval y)).run P w = .ok u w -> (execOp a.eval o).run P w = .ok (.value u) w := by
     intro u hu; unfold execOp; rw [e]; simp [hu]
   generalize a.eval x = u at *
   generalize a.eval y = u' at *
   unfold ydo
   split
   · rename_i p k i he
     simp only [List.cons.injEq, and_true] at he
     obtain ⟨rfl, rfl⟩ := he
     have e2 := hy.inv_int
     subst e2
     split
     · rename_i ti hti
       have ok := (hT t ti hti).k
       split
       · rename_i e' esz eb hk
         rw [hk] at ok
         obtain ⟨ok1, ok2⟩ := ok
         obtain ⟨ei, hei, hes⟩ := Option.map_eq_some_iff.1 ok2
         simp only [Prod.mk.injEq] at hes
         have hso : (sizeOf e').run P w = .ok esz w := by simp [sizeOf, typeInfo, program, Sem.run, hei, hes.1]
         have go : ∀ b o' n cap, u = .slice (some ⟨b, o', none⟩) n cap -> 0 <= i -> i < n -> (Instr.indexAt t u (.int k i)).run P w = .ok (.pointer (some ⟨b, o' + i.toNat * esz, none⟩)) w := by
           rintro b o' n cap rfl h0 h1
           simp [Instr.indexAt, asIntOf, run_underlying ok1, h0, h1, hso, zbb]
         split
         · rename_i sz n get
           split
           · rename_i hsz
             obtain rfl := za1 hsz
             intro hb
             obtain ⟨h0, h1⟩ := zdy hb
             have h1' : i < (n : Int) := h1
             cases hx with
             | lst0 => omega
             | lst _ _ _ b o' cap vs hD hc hv hone hr =>
               have hlt : i.toNat < n := by omega
               refine za0 h hd (run _ (go b o' n cap rfl h0 h1')) (.iptr _ _ b _ (fun j => vs i.toNat j) hD (fun j hj => hv _ _ hlt hj) (fun j hj => hone _ _ hlt hj) (fun j hj => hr _ _ hlt hj))
           · trivial
         · rename_i id sz off n
           split
           · rename_i hsz
             obtain rfl := za1 hsz
             split
             · rename_i ty cs hg
               split
               · rename_i hk1 hk2
                 have hk1 := zan hk1
                 intro hb
                 have hik : i = ((cs.length / esz - 1 : Nat) : Int) := by
                   rw [<- zai]
                   have : (i == za7 (zdo cs / esz - 1)) = true := hb
                   exact eq_of_beq this
                 rw [zai] at hk1 |-
                 cases hx with
                 | slv => omega
                 | sl0 => omega
                 | sl _ _ _ _ b z m cap hμ hn hz ho =>
                   refine za0 h hd (run _ (go b _ n cap rfl (by omega) (by omega))) ?_
                   rw [hik]
                   rw [show (((cs.length / esz - 1 : Nat) : Int)).toNat = cs.length / esz - 1 by omega, Nat.zero_mul, Nat.zero_add]
                   exact .ref _ _ b z m hμ
               · trivial
             intro hb
             obtain ⟨h0, h1⟩ := zdy hb
             have h1' : i < (n : Int) := h1
             cases hx with
             | slv => omega
             | sl0 => omega
             | sl _ _ _ _ b z m cap hμ hn hz ho =>
               refine za0 h hd (run _ (go b _ n cap rfl h0 h1')) ?_
               have : off * esz + i.toNat * esz = (L2 std Nat.add off (std Int.toNat i)) * esz + 0 := by
                 show _ = (off + i.toNat) * esz + 0
                 rw [Nat.add_mul]; omega
               rw [this]
               exact .eref _ _ _ _ b z m hμ (by show off + i.toNat < m; omega)
           · trivial
         · rename_i q k sz off n
           split
           · rename_i hsz
             obtain rfl := za1 hsz
             intro hb
             obtain ⟨h0, h1⟩ := zdy hb
             have h1' : i < (n : Int) := h1
             cases hx with
             | aslv => omega
             | asl0 => omega
             | asl _ _ _ _ _ b z m cap hμ hn hz ho =>
               refine za0 h hd (run _ (go b _ n cap rfl h0 h1')) ?_
               have : off * esz + i.toNat * esz = (L2 std Nat.add off (std Int.toNat i)) * esz + 0 := by
                 show _ = (off + i.toNat) * esz + 0
                 rw [Nat.add_mul]; omega
               rw [this]
               exact .aer _ _ _ _ _ b z m hμ (by show off + i.toNat < m; omega)
           · trivial
         · trivial
       · rename_i n e' esz hk
         rw [hk] at ok
         obtain ⟨ok1, ok2⟩ := ok
         obtain ⟨ei, hei, hes⟩ := Option.map_eq_some_iff.1 ok2
         have hso : (sizeOf e').run P w = .ok esz w := by simp [sizeOf, typeInfo, program, Sem.run, hei, hes]
         split
         · rename_i hn1
           have go : ∀ b o', u = .pointer (some ⟨b, o', none⟩) -> 0 <= i -> i < n -> (Instr.indexAt t u (.int k i)).run P w = .ok (.pointer (some ⟨b, o' + i.toNat * esz, none⟩)) w := by
             rintro b o' rfl h0 h1
             simp [Instr.indexAt, asIntOf, run_underlying ok1, h0, h1, hso, zbb, Instr.sureAddr]
           split
           · rename_i id off
             split
             · rename_i sz m get hg
               split
               · rename_i hsz hm
                 obtain rfl := za1 hsz
                 obtain rfl := za1 hm
                 intro hb
                 obtain ⟨h0, h1⟩ := zdy hb
                 cases hx with
                 | ref _ _ b z m' hμ =>
                   obtain ⟨hm', _⟩ := h.obs id _ _ (hob _ _ hg) hμ
                   refine za0 h hd (run _ (go b _ rfl h0 h1)) ?_
                   rw [Nat.zero_add]
                   exact .eref _ _ _ 0 b z m' hμ (show i.toNat < m' from (by have h1' : i < (m : Int) := h1; omega))
               · trivial
             · rename_i hg
               split
               · rename_i hesz
                 have hesz := za1 hesz
                 subst hesz
                 intro hb
                 obtain ⟨h0, h1⟩ := zdy hb
                 cases hx with
                 | ref _ _ b z m' hμ =>
                   refine za0 h hd (run _ (go b _ rfl h0 h1)) ?_
                   rw [Nat.mul_one]
                   exact .bidx _ _ _ _ b z m' hμ (show i.toNat < n from (by have h1' : i < (n : Int) := h1; omega))
               · trivial
             · trivial
           · rename_i m get
             split
             · rename_i hm
               have hm := za1 hm
               have key : ∀ (b o' : Nat) (vs : Nat -> Value), D b -> (∀ j, j < m -> hcell w.heap b (o' + j) = some (vs j)) -> (∀ j, j < m -> one (vs j)) -> (∀ j, j < m -> R w.heap D zar (get j) (vs j)) -> u = .pointer (some ⟨b, o', none⟩) -> 0 <= i -> i < n ->
                   ∀ get' : Nat -> AV, (∀ j, j < esz -> get' j = get (i.toNat * esz + j)) -> Adv P base M W nt f g c o a w (.iptr esz get') [] [] := by
                 intro b o' vs hD hv hone hr hu h0 h1 get' hget
                 have hlt : i.toNat * esz + esz <= m := by
                   rw [hm]
                   have : i.toNat + 1 <= n := by omega
                   calc i.toNat * esz + esz = (i.toNat + 1) * esz := by rw [Nat.add_mul]; omega
                     _ <= n * esz := Nat.mul_le_mul_right _ this
                 exact za0 h hd (run _ (go b _ hu h0 h1)) (.iptr _ _ b _ (fun j => vs (i.toNat * esz + j)) hD (fun j hj => by rw [Nat.add_assoc]; exact hv _ (by omega)) (fun j hj => hone _ (by omega)) (fun j hj => by rw [hget j hj]; exact hr _ (by omega)))
               split
               · intro hb
                 obtain ⟨h0, h1⟩ := zdy hb
                 cases hx with
                 | iptr _ _ b o' vs hD hv hone hr => exact key b o' vs hD hv hone hr rfl h0 h1 _ (fun j hj => by
                     have : j = 0 := by omega
                     subst this; simp [std])
               · intro hb
                 obtain ⟨h0, h1⟩ := zdy hb
                 cases hx with
                 | iptr _ _ b o' vs hD hv hone hr => exact key b o' vs hD hv hone hr rfl h0 h1 _ (fun j hj => rfl)
             · trivial
           · trivial
         · trivial
       · trivial
     · trivial
   · trivial
omit hd in
theorem zk2 {p k b z m : Nat} {ty sz n : Nat} {len : Nat -> Nat} {get : Nat -> Nat -> Nat -> AV} (hg : g p = some (.tab ty sz n len get)) (hμ : μ (mid p k) = some (some (b, z, m))) :
   k < n /\ zdg w.heap D μ (.row ty sz (len k) (get k)) (some (b, z, m)) := by
 have h1 := h.tbs.mem hg (k := k)
 have hk : k < n := by
   rcases Nat.lt_or_ge k n with h2 | h2
   · exact h2
   · rw [if_neg (by omega)] at h1
     rw [(h.domx _).2 h1] at hμ
     cases hμ
 rw [if_pos hk] at h1
 exact ⟨hk, h.obsx _ _ _ h1 hμ⟩
def Lo (P : Program) (D : Nat -> Prop) (μ : Mu) (t : TypeId) (u : Value) (w : World) : zc0 -> Prop
 | .ok v os ice => os = [] /\ ice = [] /\ ∃ y, (Instr.loadAt t u).run P w = .ok y w /\ R w.heap D μ v y
 | .okIf _ _ _ _ => False
 | .okP _ _ _ _ => False
 | .call _ _ _ => False
 | .callB _ _ => False
 | .alt _ _ _ _ _ _ => False
 | .bad _ => True
omit hd in
theorem zum (hT : zbd P T) {t : TypeId} {v : AV} {u : Value} (hv : R w.heap D μ v u) {ob : Nat -> Option Ob} (hob : ∀ id z, ob id = some z -> g id = some z) : Lo P D μ t u w (zxo T std t ob [v]) := by
 unfold zxo
 simp only
 split
 · rename_i i hi
   have hpos : i.isAgg = false -> 0 < i.sz := by
     intro hag
     have := (hT t i hi).single hag
     omega
   split
   · rename_i id off
     split
     · rename_i cs hg
       have hg := hob _ _ hg
       split
       · rename_i hle
         have hle := zb2 hle
         rw [zai] at hle
         cases hv with
         | ref _ _ b z m hμ =>
           obtain ⟨cc, t', fr, hh, _, _, h1, e1, hr⟩ := h.obs id _ _ hg hμ
           obtain ⟨u, hu, r⟩ := zeh (P := P) (D := D) (μ := μ) hT hi b off (fun j => cc.getD (off + j) undef) (fun j => zbl .dead cs (off + j))
             (fun j hj => by rw [zao hh]; exact getD_some (by omega)) (fun j hj => h1 (off + j) _ (getD_some (by omega))) (fun j hj => hr (off + j) _ _ (zak _ _ _ (by omega)) (getD_some (by omega))) hpos
           split
           · rename_i hag
             rw [hag] at r
             have e2 : zln (fun j => zbl AV.dead cs (off + j)) 0 i.sz = zcs (zd4 cs off) i.sz := by
               apply List.ext_getElem?
               intro j
               rw [zeg, zb6, zbi, List.getElem?_take, List.getElem?_drop]
               split
               · rw [Nat.zero_add]; exact (zak _ _ _ (by omega)).symm
               · rfl
             simp only [e2] at r
             exact ⟨rfl, rfl, _, hu, r⟩
           · rename_i hag
             rw [hag] at r
             exact ⟨rfl, rfl, _, hu, r⟩
       · trivial
     · rename_i sz n get hg
       have hg := hob _ _ hg
       split
       · rename_i hag hsz
         have hsz := za1 hsz
         cases hv with
         | ref _ _ b z m hμ =>
           obtain ⟨_, cc, t', fr, hh, hcs, _, hle, hrow⟩ := h.obs id _ _ hg hμ
           have hcell : ∀ q, q < i.sz -> one (cc.getD q undef) /\ R w.heap D zar (zy6 get sz q) (cc.getD q undef) /\ q < cc.size := by
             intro q hq
             have hs0 : 0 < sz := by
               rcases Nat.eq_zero_or_pos sz with h0 | h0
               · rw [hsz, h0] at hq; omega
               · exact h0
             obtain ⟨y, hy1, hy2, hy3⟩ := hrow (q / sz) (q % sz) (Nat.div_lt_of_lt_mul (by rw [Nat.mul_comm]; omega)) (Nat.mod_lt _ hs0)
             have e3 : q / sz * sz + q % sz = q := by rw [Nat.mul_comm]; exact Nat.div_add_mod q sz
             rw [e3] at hy1
             have hq' : q < cc.size := by omega
             rw [getD_some hq'] at hy1
             cases hy1
             rw [yh8 _ _ _ hs0]
             exact ⟨hy2, hy3.mono (fun _ _ => rfl) (fun _ h => h) (fun _ _ h => by cases h), hq'⟩
           obtain ⟨u, hu, r⟩ := zeh (P := P) (D := D) (μ := zar) hT hi b 0 (fun j => cc.getD j undef) (zy6 get sz)
             (fun j hj => by rw [zao hh, Nat.zero_add]; exact getD_some (hcell j hj).2.2) (fun j hj => (hcell j hj).1) (fun j hj => (hcell j hj).2.1) hpos
           rw [hag] at r
           cases zb3 16 i.sz with
           | true => exact ⟨rfl, rfl, _, hu, zxx r⟩
           | false => exact ⟨rfl, rfl, _, hu, r.mono (fun _ _ => rfl) (fun _ h => h) (fun _ _ h => by cases h)⟩
       · trivial
     · rename_i cs hg
       have hg := hob _ _ hg
       split
       · rename_i hle
         have hle := zb2 hle
         rw [zai] at hle
         cases hv with
         | ref _ _ b z m hμ =>
           obtain ⟨cc, t', fr, hh, hcz, _, hlz, hr⟩ := h.obs id _ _ hg hμ
           have hcell : ∀ j, j < i.sz -> off + j < cc.size /\ one (cc.getD (off + j) undef) /\ R w.heap D μ (zbl .dead cs (off + j)) (cc.getD (off + j) undef) := by
             intro j hj
             obtain ⟨v, v1, v2, v3⟩ := hr (off + j) _ (zak .dead cs (off + j) (by omega))
             have hlt := (Array.getElem?_eq_some_iff.1 v1).1
             rw [getD_some hlt] at v1
             cases v1
             exact ⟨hlt, v2, v3⟩
           obtain ⟨u, hu, r⟩ := zeh (P := P) (D := D) (μ := μ) hT hi b off (fun j => cc.getD (off + j) undef) (fun j => zbl .dead cs (off + j))
             (fun j hj => by rw [zao hh]; exact getD_some (hcell j hj).1) (fun j hj => (hcell j hj).2.1) (fun j hj => (hcell j hj).2.2) hpos
           split
           · rename_i hag
             rw [hag] at r
             have e2 : zln (fun j => zbl AV.dead cs (off + j)) 0 i.sz = zcs (zd4 cs off) i.sz := by
               apply List.ext_getElem?
               intro j
               rw [zeg, zb6, zbi, List.getElem?_take, List.getElem?_drop]
               split
               · rw [Nat.zero_add]; exact (zak _ _ _ (by omega)).symm
               · rfl
             simp only [e2] at r
             exact ⟨rfl, rfl, _, hu, r⟩
           · rename_i hag
             rw [hag] at r
             exact ⟨rfl, rfl, _, hu, r⟩
       · trivial
     · trivial
   · rename_i id sz q off
     split
     · rename_i sz' n get hg
       have hg := hob _ _ hg
       split
       · rename_i hsz
         obtain rfl := za1 hsz
         split
         · rename_i hle
           have hle := zb2 hle
           cases hv with
           | eref _ _ _ _ b z m hμ hi' =>
             obtain ⟨hm', cc, t', fr, hh, hcs, _, hle', hrow⟩ := h.obs id _ _ hg hμ
             subst hm'
             have hcell : ∀ j, j < i.sz -> ∃ y, cc[q * sz + off + j]? = some y /\ one y /\ R w.heap D μ (get q (off + j)) y := by
               intro j hj
               obtain ⟨y, hy1, hy2, hy3⟩ := hrow q (off + j) hi' (by omega)
               exact ⟨y, by rw [Nat.add_assoc]; exact hy1, hy2, hy3.mono (fun _ _ => rfl) (fun _ h => h) (fun _ _ h => by cases h)⟩
             obtain ⟨u, hu, r⟩ := zeh (P := P) (D := D) (μ := μ) hT hi b (q * sz + off) (fun j => cc.getD (q * sz + off + j) undef) (fun j => get q (off + j))
               (fun j hj => by
                 obtain ⟨y, hy1, _⟩ := hcell j hj
                 rw [zao hh]
                 exact getD_some (Array.getElem?_eq_some_iff.1 hy1).1)
               (fun j hj => by
                 obtain ⟨y, hy1, hy2, _⟩ := hcell j hj
                 rw [getD_some (Array.getElem?_eq_some_iff.1 hy1).1] at hy1
                 cases hy1; exact hy2)
               (fun j hj => by
                 obtain ⟨y, hy1, _, hy3⟩ := hcell j hj
                 rw [getD_some (Array.getElem?_eq_some_iff.1 hy1).1] at hy1
                 cases hy1; exact hy3) hpos
             split
             · rename_i hag
               rw [hag] at r
               exact ⟨rfl, rfl, _, hu, r⟩
             · rename_i hag
               rw [hag] at r
               exact ⟨rfl, rfl, _, hu, r⟩
         · trivial
       · trivial
     · rename_i q' sz' n get hg
       have hg := hob _ _ hg
       split
       · rename_i hsz
         obtain rfl := za1 hsz
         split
         · rename_i hle
           have hle := zb2 hle
           cases hv with
           | eref _ _ _ _ b z m hμ hi' =>
             obtain ⟨hm', cc, t', fr, hh, hcs, _, hle', hrow⟩ := h.obs id _ _ hg hμ
             subst hm'
             have hcell : ∀ j, j < i.sz -> ∃ y, cc[q * sz + off + j]? = some y /\ one y /\ R w.heap D μ (get q (off + j)) y := by
               intro j hj
               obtain ⟨y, hy1, hy2, hy3⟩ := hrow q (off + j) hi' (by omega)
               exact ⟨y, by rw [Nat.add_assoc]; exact hy1, hy2, hy3.unpm⟩
             obtain ⟨u, hu, r⟩ := zeh (P := P) (D := D) (μ := μ) hT hi b (q * sz + off) (fun j => cc.getD (q * sz + off + j) undef) (fun j => get q (off + j))
               (fun j hj => by
                 obtain ⟨y, hy1, _⟩ := hcell j hj
                 rw [zao hh]
                 exact getD_some (Array.getElem?_eq_some_iff.1 hy1).1)
               (fun j hj => by
                 obtain ⟨y, hy1, hy2, _⟩ := hcell j hj
                 rw [getD_some (Array.getElem?_eq_some_iff.1 hy1).1] at hy1
                 cases hy1; exact hy2)
               (fun j hj => by
                 obtain ⟨y, hy1, _, hy3⟩ := hcell j hj
                 rw [getD_some (Array.getElem?_eq_some_iff.1 hy1).1] at hy1
                 cases hy1; exact hy3) hpos
             split
             · rename_i hag
               rw [hag] at r
               exact ⟨rfl, rfl, _, hu, r⟩
             · rename_i hag
               rw [hag] at r
               exact ⟨rfl, rfl, _, hu, r⟩
         · trivial
       · trivial
     · trivial
   · rename_i p k sz q off
     split
     · rename_i ty sz' n len get hg
       have hg := hob _ _ hg
       split
       · rename_i hsz
         obtain rfl := za1 hsz
         split
         · rename_i hle
           have hle := zb2 hle
           cases hv with
           | aer _ _ _ _ _ b z m hμ hi' =>
             obtain ⟨hk, hm', cc, t', fr, hh, hcs, _, hle', hrow⟩ := zk2 h hg hμ
             subst hm'
             have hcell : ∀ j, j < i.sz -> ∃ y, cc[q * sz + off + j]? = some y /\ one y /\ R w.heap D μ (get k q (off + j)) y := by
               intro j hj
               obtain ⟨y, hy1, hy2, hy3⟩ := hrow q (off + j) hi' (by omega)
               exact ⟨y, by rw [Nat.add_assoc]; exact hy1, hy2, hy3.mono (fun _ _ => rfl) (fun _ h => h) (fun _ _ h => by cases h)⟩
             obtain ⟨u, hu, r⟩ := zeh (P := P) (D := D) (μ := μ) hT hi b (q * sz + off) (fun j => cc.getD (q * sz + off + j) undef) (fun j => get k q (off + j))
               (fun j hj => by
                 obtain ⟨y, hy1, _⟩ := hcell j hj
                 rw [zao hh]
                 exact getD_some (Array.getElem?_eq_some_iff.1 hy1).1)
               (fun j hj => by
                 obtain ⟨y, hy1, hy2, _⟩ := hcell j hj
                 rw [getD_some (Array.getElem?_eq_some_iff.1 hy1).1] at hy1
                 cases hy1; exact hy2)
               (fun j hj => by
                 obtain ⟨y, hy1, _, hy3⟩ := hcell j hj
                 rw [getD_some (Array.getElem?_eq_some_iff.1 hy1).1] at hy1
                 cases hy1; exact hy3) hpos
             split
             · rename_i hag
               rw [hag] at r
               exact ⟨rfl, rfl, _, hu, r⟩
             · rename_i hag
               rw [hag] at r
               exact ⟨rfl, rfl, _, hu, r⟩
         · trivial
       · trivial
     · trivial
   · rename_i n get
     split
     · rename_i hle
       have hle := zb2 hle
       cases hv with
       | iptr _ _ b o' vs hD hv hone hr =>
         obtain ⟨u, hu, r⟩ := zeh (P := P) (D := D) (μ := μ) hT hi b o' vs get (fun j hj => hv j (by omega)) (fun j hj => hone j (by omega)) (fun j hj => (hr j (by omega)).free) hpos
         split
         · rename_i hag
           rw [hag] at r
           exact ⟨rfl, rfl, _, hu, r⟩
         · rename_i hag
           rw [hag] at r
           exact ⟨rfl, rfl, _, hu, r⟩
     · trivial
   · rename_i id off n q
     split
     · rename_i ty cs hg
       have hg := hob _ _ hg
       split
       · rename_i hag hle
         have hle := zb2 hle
         rw [zai] at hle
         have hs := (hT t i hi).single hag
         cases hv with
         | bidx _ _ _ _ b z m hμ hq =>
           obtain ⟨cc, t', fr, hh, _, _, h1, e1, hr⟩ := h.obs id _ _ hg hμ
           have hx : cs[off + q]? = some (zii std (zcs (zd4 cs off) n) 1 q 0) := by
             have := zeq (cs := zcs (zd4 cs off) n) (sz := 1) (n := n) (by rw [zb6, zbi]; simp; omega) (i := q) (j := 0) hq (by omega)
             rw [zb6, zbi, List.getElem?_take, if_pos (by omega), List.getElem?_drop, Nat.mul_one, Nat.add_zero] at this
             rw [zb6, zbi]
             exact this
           have hlt : off + q < cc.size := by rw [<- e1]; exact (List.getElem?_eq_some_iff.1 hx).1
           obtain ⟨u, hu, r⟩ := zeh (P := P) (D := D) (μ := μ) hT hi b (off + q) (fun j => cc.getD (off + q + j) undef) (fun j => match j with | 0 => zii std (zcs (zd4 cs off) n) 1 q 0 | _ => .dead)
             (fun j hj => by rw [zao hh]; exact getD_some (by omega)) (fun j hj => h1 _ _ (getD_some (by omega))) (fun j hj => by
               have : j = 0 := by omega
               subst this
               exact hr (off + q) _ _ hx (getD_some hlt)) hpos
           rw [hag] at r
           exact ⟨rfl, rfl, _, hu, r⟩
       · trivial
     · trivial
   · trivial
 · trivial
theorem zzr (hT : zbd P T) {t : TypeId} {x : Operand} (e : o.op = .load t x) {vals : List AV} (hv : Ops w.heap D μ a [x] vals) {ob : Nat -> Option Ob} (hob : ∀ id z, ob id = some z -> g id = some z) :
   zbw P base M W nt f g c o a w (zxo T std t ob vals) := by
 match vals, hv with
 | [v], ⟨hv, _⟩ =>
   have run : ∀ u, (Instr.loadAt t (a.eval x)).run P w = .ok u w -> (execOp a.eval o).run P w = .ok (.value u) w := by
     intro u hu; unfold execOp; rw [e]; simp [hu]
   have hl := zum h hT (t := t) hv hob
   generalize zxo T std t ob [v] = z at hl
   cases z with
   | ok v' os ice =>
     obtain ⟨rfl, rfl, y, hy, r⟩ := hl
     exact za0 h hd (run _ hy) r
   | bad n => trivial
   | _ => exact hl.elim
end
end Sy
end Go.Proofs.Ytogomcfgfnlclaa
namespace Go.Proofs.Ytogomcfgfnlclaa
namespace Sy
open Go Go.RowKit
set_option linter.unusedSimpArgs false
set_option linter.unusedVariables false
def zen (a : Act) : Option Operand -> Option Int -> Prop
 | none, none => True
 | some x, some i => ∃ k, a.eval x = .int k i
 | _, _ => False
theorem zde {P : Program} {w : World} {a : Act} (isS : Bool) (len cap : Nat) {lo hi : Option Operand} {p q : Option Int} (h1 : zen a lo p) (h2 : zen a hi q)
   (l r : Nat) (hl : (p.getD 0) = (l : Int)) (hr : (q.getD len) = (r : Int)) (hlr : l <= r) (hrc : r <= cap) :
   (Instr.sliceBounds isS len cap (lo.map a.eval) (hi.map a.eval) none).run P w = .ok (l, r, cap) w := by
 unfold Instr.sliceBounds
 cases lo with
 | none =>
   cases p with
   | some _ => exact h1.elim
   | none =>
     cases hi with
     | none =>
       cases q with
       | some _ => exact h2.elim
       | none => simp at hl hr; simp; omega
     | some y =>
       cases q with
       | none => exact h2.elim
       | some j =>
         obtain ⟨k, e⟩ := h2
         simp at hl hr
         subst hr
         simp [e, Instr.sliceBound, asIntOf, hrc]
         omega
 | some x =>
   cases p with
   | none => exact h1.elim
   | some i =>
     obtain ⟨k, e⟩ := h1
     simp at hl
     subst hl
     cases hi with
     | none =>
       cases q with
       | some _ => exact h2.elim
       | none =>
         simp at hr
         obtain rfl : len = r := by omega
         simp [e, Instr.sliceBound, asIntOf, hlr]
     | some y =>
       cases q with
       | none => exact h2.elim
       | some j =>
         obtain ⟨k', e'⟩ := h2
         simp at hr
         subst hr
         simp [e, e', Instr.sliceBound, asIntOf, hrc, hlr]
section
variable {P : Program} {T : TT} {base : Nat} {M : Two} {W : World} {nt : Nat} {f : Nat -> Option AV} {g : Nat -> Option Ob} {c : Nat -> Bool} {a : Act} {w : World} {D : Nat -> Prop} {μ : Mu} {o : Oper}
theorem ynt {lo hi m : Option Operand} {vs : List AV} {p q : Option Int} (e : two vs lo.isSome hi.isSome m.isSome = some (p, q)) (hv : Ops w.heap D μ a (lo.toList ++ (hi.toList ++ m.toList)) vs) :
   m = none /\ zen a lo p /\ zen a hi q := by
 cases m with
 | some _ => cases lo <;> cases hi <;> simp [two] at e
 | none =>
   refine ⟨rfl, ?_⟩
   cases lo with
   | none =>
     cases hi with
     | none => simp [two] at e; obtain ⟨rfl, rfl⟩ := e; exact ⟨trivial, trivial⟩
     | some y =>
       simp only [two, Option.isSome] at e
       split at e
       · cases e
         exact ⟨trivial, _, hv.1.inv_int⟩
       · cases e
   | some x =>
     cases hi with
     | none =>
       simp only [two, Option.isSome] at e
       split at e
       · cases e
         exact ⟨⟨_, hv.1.inv_int⟩, trivial⟩
       · cases e
     | some y =>
       simp only [two, Option.isSome] at e
       split at e
       · cases e
         exact ⟨⟨_, hv.1.inv_int⟩, _, hv.2.1.inv_int⟩
       · cases e
theorem zgo {n : Int} {p q : Option Int} (hn : 0 <= n) (h : zly std n p q = true) :
   ∃ l r : Nat, (p.getD 0) = (l : Int) /\ (q.getD n) = (r : Int) /\ l <= r /\ (r : Int) <= n /\ (∀ off, ym6 std off p = off + l) /\ (∀ n' : Nat, n = n' -> zre std n' p q = r - l) /\
     (∀ s : List UInt8, n = s.length -> ynk std s p q = (s.take r).drop l) /\ (∀ get i j, yej std get p i j = get (l + i) j) := by
 cases p with
 | none =>
   cases q with
   | none => exact ⟨0, n.toNat, rfl, by simp; omega, by omega, by omega, fun off => rfl, fun n' e => by simp [zre]; omega, fun s e => by simp [ynk]; rw [List.take_of_length_le (by omega)], fun get i j => by simp [yej]⟩
   | some b =>
     have h' : 0 <= b /\ b <= n := by simpa [zly, L2, std, inC] using h
     exact ⟨0, b.toNat, rfl, by simp; omega, by omega, by omega, fun off => rfl, fun n' e => by simp [zre, std], fun s e => by simp [ynk, L2, std], fun get i j => by simp [yej]⟩
 | some l =>
   cases q with
   | none =>
     have h' : 0 <= l /\ l <= n := by simpa [zly, L2, std, inC] using h
     exact ⟨l.toNat, n.toNat, by simp; omega, by simp; omega, by omega, by omega, fun off => rfl, fun n' e => by simp [zre, L2, std]; omega, fun s e => by
       simp [ynk, L2, std]; rw [List.take_of_length_le (by omega)], fun get i j => rfl⟩
   | some b =>
     have h' : (0 <= l /\ l <= b) /\ b <= n := by simpa [zly, L3, std, inS] using h
     exact ⟨l.toNat, b.toNat, by simp; omega, by simp; omega, by omega, by omega, fun off => rfl, fun n' e => by simp [zre, L2, std], fun s e => by simp [ynk, L3, std, yn9], fun get i j => rfl⟩
variable (h : Sim base M W nt f g c a w D μ) (hd : ∀ d, o.dst = some d -> d < nt)
include h hd
theorem zvy (hT : zbd P T) {t : TypeId} {x : Operand} {lo hi m : Option Operand} (e : o.op = .slice t x lo hi m) {vals : List AV} (hv : Ops w.heap D μ a (x :: (lo.toList ++ (hi.toList ++ m.toList))) vals)
   {ob : Nat -> Option Ob} (hob : ∀ id z, ob id = some z -> g id = some z) :
   zbw P base M W nt f g c o a w (yda T std t ob lo.isSome hi.isSome m.isSome vals) := by
 match vals, hv with
 | v :: vs, ⟨hx, hv⟩ =>
   unfold yda
   simp only
   split
   · rename_i ti hti
     split
     · rename_i p q htwo
       obtain ⟨rfl, hb1, hb2⟩ := ynt htwo hv
       have run : ∀ u, (Instr.sliceAt t (a.eval x) (lo.map a.eval) (hi.map a.eval) none).run P w = .ok u w -> (execOp a.eval o).run P w = .ok (.value u) w := by
         intro u hu; unfold execOp; rw [e]; simp [hu]
       generalize a.eval x = u at *
       have ok := (hT t ti hti).k
       split
       · rename_i n e' esz id off hk
         rw [hk] at ok
         obtain ⟨ok1, ok2⟩ := ok
         obtain ⟨ei, hei, hes⟩ := Option.map_eq_some_iff.1 ok2
         have hso : (sizeOf e').run P w = .ok esz w := by simp [sizeOf, typeInfo, program, Sem.run, hei, hes]
         split
         · rename_i ty sz n' get hg
           have hg := hob _ _ hg
           split
           · rename_i hsz hnn
             obtain rfl := za1 hsz
             obtain rfl := za1 hnn
             intro hb
             obtain ⟨l, r, e1, e2, e3, e4, e5, e6, _, e7⟩ := zgo (n := (n' : Int)) (by omega) hb
             cases hx with
             | ref _ _ b z m hμ =>
               obtain ⟨hm, C, t', fr, hh, hcs, _, hle, hrow⟩ := h.obs id _ _ hg hμ
               subst hm
               have hbr := zde (P := P) (w := w) false n' n' hb1 hb2 l r e1 e2 e3 (by omega)
               have h1 : (Instr.sliceAt t (.pointer (some ⟨b, 0, none⟩)) (lo.map a.eval) (hi.map a.eval) none).run P w = .ok (.slice (some (if n' = l then ⟨b, 0, none⟩ else (⟨b, 0, none⟩ : Addr).add (l * esz))) (r - l) (n' - l)) w := by
                 simp [Instr.sliceAt, Instr.sureAddr, run_underlying ok1, hbr, hso]
               rw [show zre (fun {α β} => std) n' p q = r - l from e6 n' rfl, show ym6 (fun {α β} => std) 0 p = 0 + l from e5 0, Nat.zero_add]
               by_cases hcl : n' = l
               · subst hcl
                 rw [if_pos rfl] at h1
                 have h0 : r - n' = 0 := by omega
                 rw [h0, Nat.sub_self] at h1
                 rw [h0]
                 exact za0 h hd (run _ h1) (.sl0 _ _ _ b z n' _ hμ (Nat.le_refl _))
               · rw [if_neg hcl, zbb, Nat.zero_add] at h1
                 refine za0 h hd (run _ h1) (.sl _ _ _ _ b z n' _ hμ (by omega) (by rw [show l + (n' - l) = n' by omega]; exact hle) (by omega))
           · trivial
         · rename_i ty cs hg
           have hg := hob _ _ hg
           split
           · rename_i hsz hle hfr
             obtain rfl := za1 hsz
             have hle := zb2 hle
             rw [zai] at hle
             intro hb
             obtain ⟨l, r, e1, e2, e3, e4, e5, e6, _, e7⟩ := zgo (n := (n : Int)) (by omega) hb
             cases hx with
             | ref _ _ b z m hμ =>
               obtain ⟨C, t', fr, hh, hcs, _, h1c, hl, hr⟩ := h.obs id _ _ hg hμ
               have hbr := zde (P := P) (w := w) false n n hb1 hb2 l r e1 e2 e3 (by omega)
               have h1 : (Instr.sliceAt t (.pointer (some ⟨b, off, none⟩)) (lo.map a.eval) (hi.map a.eval) none).run P w = .ok (.slice (some (if n = l then ⟨b, off, none⟩ else (⟨b, off, none⟩ : Addr).add (l * 1))) (r - l) (n - l)) w := by
                 simp [Instr.sliceAt, Instr.sureAddr, run_underlying ok1, hbr, hso]
               have h' := h.freeze [id] (fun i hi => by simp at hi; subst hi; exact ⟨_, hg, by simp⟩)
               have hcell : ∀ k, k < n -> ∃ v, C[off + k]? = some v /\ one v /\ R w.heap D zar (zii std (zcs (zd4 cs off) n) 1 k 0) v := by
                 intro k hk
                 have hx := zeq (cs := zcs (zd4 cs off) n) (sz := 1) (n := n) (by rw [zb6, zbi]; simp; omega) (i := k) (j := 0) hk (by omega)
                 have hf := zc4 hfr _ _ hx
                 rw [zb6, zbi, List.getElem?_take, if_pos (by omega), List.getElem?_drop, Nat.mul_one, Nat.add_zero] at hx
                 have hlt : off + k < C.size := by rw [<- hl]; exact (List.getElem?_eq_some_iff.1 hx).1
                 rw [zb6, zbi] at hf |-
                 exact ⟨_, getD_some hlt, h1c _ _ (getD_some hlt), zcv (hr _ _ _ hx (getD_some hlt)) hf⟩
               intro K Q hK
               unfold Oper.wp
               rw [run _ h1]
               refine hK _ _ ⟨_, _, h'.put hd ?_⟩
               rw [show zre (fun {α β} => std) n p q = r - l from e6 n rfl]
               by_cases h0 : r - l = 0
               · rw [h0]
                 exact .lst0 _ _ _ _ (fun h => by cases h)
               · rw [if_neg (by omega), zbb, Nat.mul_one]
                 refine .lst 1 (r - l) _ b (off + l) (n - l) (fun i j => C.getD (off + l + i * 1 + j) undef) (.inr ⟨id, z, m, by simp, hμ⟩) (by omega) (fun i j hi hj => ?_) (fun i j hi hj => ?_) (fun i j hi hj => ?_)
                 all_goals
                   have hj0 : j = 0 := by omega
                   subst hj0
                   obtain ⟨v, v1, v2, v3⟩ := hcell (l + i) (by omega)
                   have ev : C.getD (off + l + i * 1 + 0) undef = v := by
                     rw [show off + l + i * 1 + 0 = off + (l + i) by omega, Array.getD_eq_getD_getElem?, v1]; rfl
                 · rw [zao hh]
                   show _ = some (C.getD (off + l + i * 1 + 0) undef)
                   rw [ev, show off + l + i * 1 + 0 = off + (l + i) by omega, v1]
                 · show one (C.getD (off + l + i * 1 + 0) undef)
                   rw [ev]; exact v2
                 · show R _ _ _ _ (C.getD (off + l + i * 1 + 0) undef)
                   rw [ev, e7]
                   exact v3.mono (fun _ _ => rfl) (fun _ h => .inl h) (fun _ _ h => h)
           · trivial
         · trivial
       · rename_i s hk
         rw [hk] at ok
         intro hb
         obtain ⟨s', rfl, rfl⟩ := hx.inv_str
         obtain ⟨l, r, e1, e2, e3, e4, _, _, e5, _⟩ := zgo (n := std slen s'.data.toList) (by simp [std, slen]) hb
         have hsz : (std slen s'.data.toList : Int) = s'.size := by simp [std, slen]
         rw [hsz] at e2 e4
         refine za0 h hd (u := .string (s'.extract l r)) (run _ ?_) ?_
         · have hbr := zde (P := P) (w := w) false s'.size s'.size hb1 hb2 l r e1 e2 e3 (by omega)
           simp [Instr.sliceAt, Instr.slice, run_underlying ok, hbr]
         · rw [e5 _ (by rw [hsz]; simp)]
           exact .str _ _ (by
             simp [List.take_drop, List.extract_eq_take_drop]
             try rw [show l + (r - l) = r by omega])
       · rename_i e' esz eb sz n get hk
         rw [hk] at ok
         obtain ⟨ok1, ok2⟩ := ok
         obtain ⟨ei, hei, hes⟩ := Option.map_eq_some_iff.1 ok2
         simp only [Prod.mk.injEq] at hes
         have hso : (sizeOf e').run P w = .ok esz w := by simp [sizeOf, typeInfo, program, Sem.run, hei, hes.1]
         split
         · rename_i hsz
           obtain rfl := za1 hsz
           intro hb
           obtain ⟨l, r, e1, e2, e3, e4, e5, e6, _, e7⟩ := zgo (n := (n : Int)) (by omega) hb
           have go : ∀ ad cap, n <= cap -> u = .slice ad n cap -> (Instr.sliceAt t u (lo.map a.eval) (hi.map a.eval) none).run P w = .ok (.slice (if cap = l then ad else ad.map (·.add (l * esz))) (r - l) (cap - l)) w := by
             rintro ad cap hc rfl
             have hbr := zde (P := P) (w := w) true n cap hb1 hb2 l r e1 e2 e3 (by omega)
             simp [Instr.sliceAt, Instr.slice, run_underlying ok1, hbr, hso]
           have hN : zre std n p q = r - l := e6 n rfl
           rw [show zre (fun {α β} => std) n p q = r - l from hN]
           cases hx with
           | lst0 _ _ ad cap hn =>
             have h0 : r - l = 0 := by omega
             have h1 := go ad cap (by omega) rfl
             rw [h0] at h1 |-
             exact za0 h hd (run _ h1) (.lst0 _ _ _ _ (fun h => by
               have h2 : ad = none := by
                 cases ad with
                 | none => rfl
                 | some _ => split at h <;> cases h
               have := hn h2; omega))
           | lst _ _ _ b o' cap vs hD hc hv hone hr =>
             have h1 := go _ cap hc rfl
             by_cases h0 : r - l = 0
             · rw [h0] at h1 |-
               exact za0 h hd (run _ h1) (.lst0 _ _ _ _ (fun h => by split at h <;> cases h))
             · rw [if_neg (by omega)] at h1
               simp only [Option.map_some, zbb] at h1
               refine za0 h hd (run _ h1) (.lst _ _ _ b _ _ (fun i j => vs (l + i) j) hD (by omega) (fun i j hi hj => ?_) (fun i j hi hj => hone _ _ (by omega) hj) (fun i j hi hj => ?_))
               · have := hv (l + i) j (by omega) hj
                 rw [Nat.add_mul] at this
                 rw [show o' + l * esz + i * esz + j = o' + (l * esz + i * esz) + j by omega]
                 exact this
               · rw [show yej (fun {α β} => std) get p i j = get (l + i) j from e7 get i j]
                 exact hr _ _ (by omega) hj
         · trivial
       · rename_i e' esz eb id sz off n hk
         rw [hk] at ok
         obtain ⟨ok1, ok2⟩ := ok
         obtain ⟨ei, hei, hes⟩ := Option.map_eq_some_iff.1 ok2
         simp only [Prod.mk.injEq] at hes
         have hso : (sizeOf e').run P w = .ok esz w := by simp [sizeOf, typeInfo, program, Sem.run, hei, hes.1]
         split
         · rename_i hsz
           obtain rfl := za1 hsz
           intro hb
           obtain ⟨l, r, e1, e2, e3, e4, e5, e6, _, e7⟩ := zgo (n := (n : Int)) (by omega) hb
           have go : ∀ ad cap, n <= cap -> u = .slice ad n cap -> (Instr.sliceAt t u (lo.map a.eval) (hi.map a.eval) none).run P w = .ok (.slice (if cap = l then ad else ad.map (·.add (l * esz))) (r - l) (cap - l)) w := by
             rintro ad cap hc rfl
             have hbr := zde (P := P) (w := w) true n cap hb1 hb2 l r e1 e2 e3 (by omega)
             simp [Instr.sliceAt, Instr.slice, run_underlying ok1, hbr, hso]
           rw [show zre (fun {α β} => std) n p q = r - l from e6 n rfl, show ym6 (fun {α β} => std) off p = off + l from e5 off]
           cases hx with
           | slv _ _ ad hμ =>
             have h1 := go ad 0 (by omega) rfl
             obtain rfl : l = 0 := by omega
             obtain rfl : r = 0 := by omega
             exact za0 h hd (run _ h1) (.slv _ _ _ hμ)
           | sl0 _ _ _ b z m o' hμ ho =>
             have h1 := go _ 0 (by omega) rfl
             obtain rfl : l = 0 := by omega
             obtain rfl : r = 0 := by omega
             exact za0 h hd (run _ h1) (.sl0 _ _ _ b z m _ hμ ho)
           | sl _ _ _ _ b z m cap hμ hn hz ho =>
             have h1 := go _ cap hn rfl
             by_cases hcl : cap = l
             · subst hcl
               rw [if_pos rfl] at h1
               have h0 : r - cap = 0 := by omega
               rw [h0, Nat.sub_self] at h1
               rw [h0]
               exact za0 h hd (run _ h1) (.sl0 _ _ _ b z m _ hμ (by omega))
             · rw [if_neg hcl] at h1
               simp only [Option.map_some, zbb] at h1
               rw [<- Nat.add_mul] at h1
               exact za0 h hd (run _ h1) (.sl _ _ _ _ b z m _ hμ (by omega) (by rw [show off + l + (cap - l) = off + cap by omega]; exact hz) (by omega))
         · trivial
       · rename_i e' esz eb p' k' sz off n hk
         rw [hk] at ok
         obtain ⟨ok1, ok2⟩ := ok
         obtain ⟨ei, hei, hes⟩ := Option.map_eq_some_iff.1 ok2
         simp only [Prod.mk.injEq] at hes
         have hso : (sizeOf e').run P w = .ok esz w := by simp [sizeOf, typeInfo, program, Sem.run, hei, hes.1]
         split
         · rename_i hsz
           obtain rfl := za1 hsz
           intro hb
           obtain ⟨l, r, e1, e2, e3, e4, e5, e6, _, e7⟩ := zgo (n := (n : Int)) (by omega) hb
           have go : ∀ ad cap, n <= cap -> u = .slice ad n cap -> (Instr.sliceAt t u (lo.map a.eval) (hi.map a.eval) none).run P w = .ok (.slice (if cap = l then ad else ad.map (·.add (l * esz))) (r - l) (cap - l)) w := by
             rintro ad cap hc rfl
             have hbr := zde (P := P) (w := w) true n cap hb1 hb2 l r e1 e2 e3 (by omega)
             simp [Instr.sliceAt, Instr.slice, run_underlying ok1, hbr, hso]
           rw [show zre (fun {α β} => std) n p q = r - l from e6 n rfl, show ym6 (fun {α β} => std) off p = off + l from e5 off]
           cases hx with
           | aslv _ _ _ ad hμ =>
             have h1 := go ad 0 (by omega) rfl
             obtain rfl : l = 0 := by omega
             obtain rfl : r = 0 := by omega
             exact za0 h hd (run _ h1) (.aslv _ _ _ _ hμ)
           | asl0 _ _ _ _ b z m o' hμ ho =>
             have h1 := go _ 0 (by omega) rfl
             obtain rfl : l = 0 := by omega
             obtain rfl : r = 0 := by omega
             exact za0 h hd (run _ h1) (.asl0 _ _ _ _ b z m _ hμ ho)
           | asl _ _ _ _ _ b z m cap hμ hn hz ho =>
             have h1 := go _ cap hn rfl
             by_cases hcl : cap = l
             · subst hcl
               rw [if_pos rfl] at h1
               have h0 : r - cap = 0 := by omega
               rw [h0, Nat.sub_self] at h1
               rw [h0]
               exact za0 h hd (run _ h1) (.asl0 _ _ _ _ b z m _ hμ (by omega))
             · rw [if_neg hcl] at h1
               simp only [Option.map_some, zbb] at h1
               rw [<- Nat.add_mul] at h1
               exact za0 h hd (run _ h1) (.asl _ _ _ _ _ b z m _ hμ (by omega) (by rw [show off + l + (cap - l) = off + cap by omega]; exact hz) (by omega))
         · trivial
       · trivial
     · trivial
   · trivial
end
end Sy
end Go.Proofs.Ytogomcfgfnlclaa
namespace Go.Proofs.Ytogomcfgfnlclaa
namespace Sy
open Go Go.RowKit
set_option linter.unusedSimpArgs false
set_option linter.unusedVariables false
def zb0 (C : Array Value) : Nat -> List Value -> Array Value
 | _, [] => C
 | n, x :: xs => zb0 (C.setIfInBounds n x) (n + 1) xs
theorem zla (off : Nat) : ∀ (l : List Value) (k : Nat) (C : Array Value), (l.zipIdx k).foldl (fun cs (p : Value × Nat) => cs.setIfInBounds (off + p.2) p.1) C = zb0 C (off + k) l
 | [], k, C => rfl
 | x :: xs, k, C => by
   simp only [List.zipIdx_cons, List.foldl_cons, zb0]
   rw [zla off xs (k + 1)]
   rfl
theorem zqo (off : Nat) (X C : Array Value) : X.zipIdx.foldl (fun cs (c, j) => cs.setIfInBounds (off + j) c) C = zb0 C off X.toList := by
 have := zla off X.toList 0 C
 rw [Nat.add_zero] at this
 rw [<- this, <- Array.foldl_toList]
 congr 1
 simp
theorem zaq : ∀ (l : List Value) (n : Nat) (C : Array Value), (zb0 C n l).size = C.size
 | [], n, C => rfl
 | x :: xs, n, C => by simp [zb0, zaq xs]
section
variable {h : Array Obj} {D : Nat -> Prop} {μ : Mu}
theorem RL.set {xs : List AV} {C : Array Value} (r : RL h D μ xs C) {x : AV} {v : Value} (rx : R h D μ x v) (n : Nat) : RL h D μ (ynd x xs n) (C.setIfInBounds n v) := by
 refine ⟨by rw [zkr]; simpa using r.1, fun i y u hy hu => ?_⟩
 rw [zkr, List.getElem?_set] at hy
 rw [Array.getElem?_setIfInBounds] at hu
 by_cases e : n = i
 · rw [if_pos e] at hy hu
   split at hy
   · split at hu
     · cases hy; cases hu; exact rx
     · cases hu
   · cases hy
 · rw [if_neg e] at hy hu
   exact r.2 i y u hy hu
theorem ones.set {C : Array Value} (r : ones C) {v : Value} (h1 : one v) (n : Nat) : ones (C.setIfInBounds n v) := by
 intro i u hu
 rw [Array.getElem?_setIfInBounds] at hu
 split at hu
 · split at hu
   · cases hu; exact h1
   · cases hu
 · exact r i u hu
def RLL (h : Array Obj) (D : Nat -> Prop) (μ : Mu) : List AV -> List Value -> Prop
 | [], [] => True
 | x :: xs, v :: vs => (R h D μ x v /\ one v) /\ RLL h D μ xs vs
 | _, _ => False
theorem RLL.len : ∀ {xs : List AV} {vs : List Value}, RLL h D μ xs vs -> xs.length = vs.length
 | [], [], _ => rfl
 | _ :: _, _ :: _, r => by simp [RLL.len r.2]
theorem RLL.of : ∀ {xs : List AV} {vs : List Value}, xs.length = vs.length -> (∀ (i : Nat) x v, xs[i]? = some x -> vs[i]? = some v -> R h D μ x v) -> (∀ v ∈ vs, one v) -> RLL h D μ xs vs
 | [], [], _, _, _ => trivial
 | x :: xs, v :: vs, e, r, h1 => ⟨⟨r 0 x v rfl rfl, h1 v (by simp)⟩, RLL.of (by simpa using e) (fun i y u hy hu => r (i + 1) y u (by simpa using hy) (by simpa using hu)) (fun u hu => h1 u (by simp [hu]))⟩
theorem RLL.get : ∀ {xs : List AV} {vs : List Value}, RLL h D μ xs vs -> ∀ (i : Nat) x v, xs[i]? = some x -> vs[i]? = some v -> R h D μ x v /\ one v
 | x :: xs, v :: vs, r, 0, y, u, hy, hu => by simp at hy hu; subst hy; subst hu; exact r.1
 | x :: xs, v :: vs, r, i + 1, y, u, hy, hu => RLL.get r.2 i y u (by simpa using hy) (by simpa using hu)
theorem zn6 : ∀ {ys : List AV} {vs : List Value} {xs : List AV} {C : Array Value} (n : Nat), RL h D μ xs C -> ones C -> RLL h D μ ys vs -> RL h D μ (zfz xs n ys) (zb0 C n vs) /\ ones (zb0 C n vs)
 | [], [], xs, C, n, r, h1, _ => ⟨r, h1⟩
 | y :: ys, v :: vs, xs, C, n, r, h1, hr => zn6 (n + 1) (r.set hr.1.1 n) (h1.set hr.1.2 n) hr.2
theorem zg9 {x : AV} {v : Value} (r : R h D μ x v) (hs : zhi x = true) : RLL h D μ x.cells v.cells.toList := by
 cases r with
 | agg cs vs e h1 hr => exact RLL.of (xs := cs) (vs := vs.toList) (by simpa using e) (fun i y u hy hu => hr i y u hy (by simpa using hu)) (fun u hu => by
     obtain ⟨i, hi⟩ := List.getElem?_of_mem hu
     exact h1 i u (by simpa using hi))
 | arr n get vs e h1 hr =>
   have k1 : (zln get 0 n).length = vs.toList.length := by rw [zgj, e]; simp
   have k2 : ∀ (i : Nat) x v, (zln get 0 n)[i]? = some x -> vs.toList[i]? = some v -> R h D μ x v := by
     intro i y u hy hu
     rw [zeg] at hy
     split at hy
     · cases hy
       rw [Nat.zero_add]
       exact (hr i u (by simpa using hu)).free
     · cases hy
   have k3 : ∀ v ∈ vs.toList, one v := by
     intro u hu
     obtain ⟨i, hi⟩ := List.getElem?_of_mem hu
     exact h1 i u (by simpa using hi)
   exact RLL.of k1 k2 k3
 | dead => cases hs
 | tup => cases hs
 | _ => exact ⟨⟨by first | exact R.bool _ | exact R.int _ _ | exact R.str _ _ ‹_› | exact R.nilp | exact R.nilm | exact R.nilf | exact R.nils | exact R.nili | exact R.ifn | exact R.ifs _ _ | exact R.emp _ _ | exact R.emz _ | exact R.lst0 _ _ _ _ ‹_› | (constructor <;> assumption), rfl⟩, trivial⟩
def zxy (h : Array Obj) (D : Nat -> Prop) (μ : Mu) (a : Act) : List (Nat × Operand) -> List AV -> Prop
 | [], [] => True
 | p :: ps, v :: vs => R h D μ v (a.eval p.2) /\ zxy h D μ a ps vs
 | _, _ => False
theorem zi6 {a : Act} {pl : Nat -> Option (Nat × Nat)} : ∀ (ps : List (Nat × Operand)) (vals : List AV) (cells : List AV) (C : Array Value) (cs : List AV), zoo pl cells ps vals = some cs -> zf8 vals = true -> zxy h D μ a ps vals ->
   RL h D μ cells C -> ones C -> ∃ C', Instr.fill pl C (ps.map fun p => (p.1, a.eval p.2)) = some C' /\ RL h D μ cs C' /\ ones C'
 | [], [], cells, C, cs, e, _, _, r, h1 => by
   cases e
   exact ⟨C, rfl, r, h1⟩
 | [], _ :: _, _, _, _, e, _, _, _, _ => by cases e
 | (i, p) :: ps, [], _, _, _, e, _, _, _, _ => by cases e
 | (i, p) :: ps, v :: vs, cells, C, cs, e, hs, hp, r, h1 => by
   simp only [zoo] at e
   split at e
   · rename_i off size hpl
     split at e
     · rename_i hsz
       have hsz := za1 hsz
       split at e
       · rename_i hle
         have hle := zb2 hle
         simp only [zf8] at hs
         split at hs
         · rename_i hv
           have rc := zg9 hp.1 hv
           have hlen := rc.len
           rw [zai] at hsz hle
           obtain ⟨w1, w2⟩ := zn6 off r h1 rc
           obtain ⟨C', f1, f2, f3⟩ := zi6 ps vs _ _ cs e hs hp.2 w1 w2
           refine ⟨C', ?_, f2, f3⟩
           simp only [List.map_cons, Instr.fill, hpl]
           have hcs : (a.eval p).cells.size = size := by rw [<- hsz, hlen]; simp
           have : ¬ ((a.eval p).cells.size ≠ size \/ off + (a.eval p).cells.size > C.size) := by
             rw [<- r.1]; omega
           simp only [Bool.or_eq_true, decide_eq_true_eq, this, if_false]
           rw [zqo]
           exact f1
         · cases hs
       · cases e
     · cases e
   · cases e
end
section
variable {P : Program} {T : TT} {base : Nat} {M : Two} {W : World} {nt : Nat} {f : Nat -> Option AV} {g : Nat -> Option Ob} {c : Nat -> Bool} {a : Act} {w : World} {D : Nat -> Prop} {μ : Mu} {o : Oper}
theorem yif {α : Type} : ∀ (l : List α) (i : Nat), nth l i = l[i]?
 | [], i => rfl
 | x :: xs, 0 => rfl
 | x :: xs, i + 1 => by simp [nth, yif xs i]
theorem zpo (hT : zbd P T) : ∀ (F : List Field) (fs pl : List (Nat × Nat)), F.map (fun f => (f.offset, f.type)) = fs -> zjl T fs = some pl ->
   F.mapM (fun f => (P.info? f.type).map fun i => (f.offset, i.size)) = some pl
 | [], _, pl, rfl, e => by cases e; rfl
 | fd :: F, _, pl, rfl, e => by
   simp only [List.map_cons, zjl] at e
   split at e
   · rename_i s hs
     split at e
     · rename_i l hl
       cases e
       have ih := zpo hT F _ l rfl hl
       unfold TT.sizeOf at hs
       split at hs
       · rename_i ti hti
         cases hs
         obtain ⟨i, z, h1, h2, _⟩ := (hT _ ti hti).info
         simp [List.mapM_cons, h1, h2, ih]
       · cases hs
     · cases e
   · cases e
theorem ztu {ps : List (Nat × Operand)} : ∀ {vals : List AV}, Ops w.heap D μ a (ps.map Prod.snd) vals -> zxy w.heap D μ a ps vals := by
 induction ps with
 | nil => intro vals hv; cases vals with
   | nil => exact trivial
   | cons _ _ => exact hv.elim
 | cons p ps ih => intro vals hv; cases vals with
   | nil => exact hv.elim
   | cons v vs => exact ⟨hv.1, ih hv.2⟩
variable (h : Sim base M W nt f g c a w D μ) (hd : ∀ d, o.dst = some d -> d < nt)
include h hd
theorem zwh (hT : zbd P T) {t : TypeId} {ps : Array (Nat × Operand)} (e : o.op = .build t ps) {vals : List AV} (hv : Ops w.heap D μ a (ps.toList.map Prod.snd) vals) :
   zbw P base M W nt f g c o a w (ydu T t ps.toList vals) := by
 have run : ∀ u, (Instr.build t (ps.map fun (i, x) => (i, a.eval x))).run P w = .ok u w -> (execOp a.eval o).run P w = .ok (.value u) w := by
   intro u hu; unfold execOp; rw [e]; simp [hu]
 unfold ydu
 split
 · rename_i i hi
   have ok := hT t i hi
   obtain ⟨ii, z, i1, i2, i3, i4, i5, i6⟩ := ok.info
   have okk := ok.k
   split
   · rename_i fs hk
     rw [hk] at okk
     obtain ⟨F, hF, hfs⟩ := okk
     split
     · rename_i pl hpl
       split
       · rename_i cs hcs
         cases hs : zf8 vals with
         | false => rw [hs] at hcs; cases hcs
         | true =>
           rw [hs] at hcs
           obtain ⟨C', f1, f2, f3⟩ := zi6 (h := w.heap) (D := D) (μ := μ) ps.toList vals i.zero z.cells cs hcs hs (ztu hv) (i6 _ _ _) i4
           refine za0 h hd (run (.agg C') (run_build w t _ C' ?_)) (.agg _ _ f2.1 f3 f2.2)
           unfold Program.built
           simp only [i1, hF, i3, zpo hT F.toList fs pl hfs hpl]
           have e2 : (fun x => pl.toArray[x]?) = nth pl := by funext x; rw [yif]; simp
           rw [e2]
           simpa using f1
       · trivial
     · trivial
   · rename_i n e' esz hk
     rw [hk] at okk
     obtain ⟨ok1, ok2⟩ := okk
     obtain ⟨ei, hei, hes⟩ := Option.map_eq_some_iff.1 ok2
     split
     · rename_i cs hcs
       cases hs : zf8 vals with
       | false => rw [hs] at hcs; cases hcs
       | true =>
         rw [hs] at hcs
         obtain ⟨C', f1, f2, f3⟩ := zi6 (h := w.heap) (D := D) (μ := μ) ps.toList vals i.zero z.cells cs hcs hs (ztu hv) (i6 _ _ _) i4
         refine za0 h hd (run (.agg C') (run_build w t _ C' ?_)) (.agg _ _ f2.1 f3 f2.2)
         unfold Program.built
         simp only [i1, ok1, i3, hei, hes]
         simpa using f1
     · trivial
   · trivial
 · trivial
end
end Sy
end Go.Proofs.Ytogomcfgfnlclaa
namespace Go.Proofs.Ytogomcfgfnlclaa
namespace Sy
open Go Go.RowKit
set_option linter.unusedSimpArgs false
set_option linter.unusedVariables false
section
variable {P : Program} {T : TT} {base : Nat} {M : Two} {W : World} {nt : Nat} {f : Nat -> Option AV} {g : Nat -> Option Ob} {c : Nat -> Bool} {a : Act} {w : World} {D : Nat -> Prop} {μ : Mu} {o : Oper}
def DF (D : Nat -> Prop) (μ : Mu) (ids : List Nat) : Nat -> Prop := fun b => D b \/ ∃ id z m, id ∈ ids /\ μ id = some (some (b, z, m))
abbrev zr9 (g : Nat -> Option Ob) (ids : List Nat) : Prop := ∀ id, id ∈ ids -> ∃ o, g id = some o /\ o ≠ .gone
theorem zuz (h : Sim base M W nt f g c a w D μ) {ob : Nat -> Option Ob} (hob : ∀ id z, ob id = some z -> g id = some z) {x x' : AV} {v : Value} (e : zlo std ob x = some x') (r : R w.heap D μ x v) {ids : List Nat} (hi : ∀ i, i ∈ zdj x -> i ∈ ids) (hx : ∀ id sz off n cap, x ≠ .slc id sz off n cap) :
   R w.heap (DF D μ ids) zar x' v /\ zr9 g (zdj x) := by
 have up : ∀ {y : AV} {u : Value}, R w.heap D zar y u -> R w.heap (DF D μ ids) zar y u := fun r => r.mono (fun _ _ => rfl) (fun _ h => .inl h) (fun _ _ h => h)
 cases x with
 | slc id sz off n cap => exact absurd rfl (hx id sz off n cap)
 | sl id sz off n =>
   simp only [zlo] at e
   split at e
   · rename_i sz' n' get hg
     have hg := hob _ _ hg
     split at e
     · rename_i hsz
       obtain rfl := za1 hsz
       cases e
       refine ⟨?_, fun i hi' => ?_⟩
       · cases r with
         | slv => exact .lst0 _ _ _ _ (fun _ => rfl)
         | sl0 => exact .lst0 _ _ _ _ (fun _ => rfl)
         | sl _ _ _ _ b z m cap hμ hn hz ho =>
           obtain ⟨hm, cc, t', fr, hh, hcs, _, hle, hrow⟩ := h.obs id _ _ hg hμ
           have key : ∀ i j, i < n -> j < sz -> ∃ y, cc[off * sz + i * sz + j]? = some y /\ one y /\ R w.heap D zar (get (off + i) j) y := by
             intro i j h1 h2
             obtain ⟨y, y1, y2, y3⟩ := hrow (off + i) j (by omega) h2
             rw [Nat.add_mul] at y1
             exact ⟨y, y1, y2, y3⟩
           refine .lst _ _ _ b (off * sz) cap (fun i j => cc.getD (off * sz + i * sz + j) undef) (.inr ⟨id, z, m, hi _ (by simp [zdj, zf2]), hμ⟩) hn (fun i j h1 h2 => ?_) (fun i j h1 h2 => ?_) (fun i j h1 h2 => ?_)
           · obtain ⟨y, y1, _⟩ := key i j h1 h2
             rw [zao hh]; exact getD_some (Array.getElem?_eq_some_iff.1 y1).1
           · obtain ⟨y, y1, y2, _⟩ := key i j h1 h2
             rw [getD_some (Array.getElem?_eq_some_iff.1 y1).1] at y1; cases y1; exact y2
           · obtain ⟨y, y1, _, y3⟩ := key i j h1 h2
             rw [getD_some (Array.getElem?_eq_some_iff.1 y1).1] at y1; cases y1; exact up y3
       · simp [zdj, zf2] at hi'; subst hi'; exact ⟨_, hg, by simp⟩
     · cases e
   · cases e
 | ref id off =>
   simp only [zlo] at e
   split at e
   · rename_i cs hg
     have hg := hob _ _ hg
     split at e
     · rename_i hf
       cases e
       refine ⟨?_, fun i hi' => by simp [zdj, zf2] at hi'; subst hi'; exact ⟨_, hg, by simp⟩⟩
       cases r with
       | ref _ _ b z m hμ =>
         obtain ⟨cc, t', fr, hh, hcs, _, h1, e1, hr⟩ := h.obs id _ _ hg hμ
         refine .iptr _ _ b off (fun j => cc.getD (off + j) undef) (.inr ⟨id, z, m, hi _ (by simp [zdj, zf2]), hμ⟩) (fun j hj => ?_) (fun j hj => ?_) (fun j hj => ?_)
         · rw [zai] at hj; rw [zao hh]; exact getD_some (by omega)
         · rw [zai] at hj; exact h1 (off + j) _ (getD_some (by omega))
         · rw [zai] at hj
           have h3 := hr (off + j) _ _ (zak .dead cs (off + j) (by omega)) (getD_some (by omega))
           exact up (zcv h3 (zc4 hf _ _ (zak .dead cs (off + j) (by omega))))
     · cases e
   · rename_i sz n get hg
     have hg := hob _ _ hg
     split at e
     · cases e
       refine ⟨?_, fun i hi' => by simp [zdj, zf2] at hi'; subst hi'; exact ⟨_, hg, by simp⟩⟩
       cases r with
       | ref _ _ b z m hμ =>
         obtain ⟨hm, cc, t', fr, hh, hcs, _, hle, hrow⟩ := h.obs id _ _ hg hμ
         have key : ∀ q, q < n * sz -> ∃ y, cc[q]? = some y /\ one y /\ R w.heap D zar (zy6 get sz q) y := by
           intro q hq
           have hs0 : 0 < sz := by
             rcases Nat.eq_zero_or_pos sz with h0 | h0
             · rw [h0] at hq; omega
             · exact h0
           obtain ⟨y, hy1, hy2, hy3⟩ := hrow (q / sz) (q % sz) (Nat.div_lt_of_lt_mul (by rw [Nat.mul_comm]; omega)) (Nat.mod_lt _ hs0)
           have e3 : q / sz * sz + q % sz = q := by rw [Nat.mul_comm]; exact Nat.div_add_mod q sz
           rw [e3] at hy1
           rw [yh8 _ _ _ hs0]
           exact ⟨y, hy1, hy2, hy3⟩
         refine .iptr _ _ b 0 (fun j => cc.getD j undef) (.inr ⟨id, z, m, hi _ (by simp [zdj, zf2]), hμ⟩) (fun j hj => ?_) (fun j hj => ?_) (fun j hj => ?_)
         · obtain ⟨y, y1, _⟩ := key j hj
           rw [zao hh, Nat.zero_add]; exact getD_some (Array.getElem?_eq_some_iff.1 y1).1
         · obtain ⟨y, y1, y2, _⟩ := key j hj
           rw [getD_some (Array.getElem?_eq_some_iff.1 y1).1] at y1; cases y1; exact y2
         · obtain ⟨y, y1, _, y3⟩ := key j hj
           rw [getD_some (Array.getElem?_eq_some_iff.1 y1).1] at y1; cases y1; exact up y3
     · cases e
   · cases e
 | eref id sz i off =>
   simp only [zlo] at e
   split at e
   · rename_i sz' n get hg
     have hg := hob _ _ hg
     split at e
     · rename_i hsz
       obtain rfl := za1 hsz
       cases e
       refine ⟨?_, fun i hi' => by simp [zdj, zf2] at hi'; subst hi'; exact ⟨_, hg, by simp⟩⟩
       cases r with
       | eref _ _ _ _ b z m hμ hi' =>
         obtain ⟨hm, cc, t', fr, hh, hcs, _, hle, hrow⟩ := h.obs id _ _ hg hμ
         have key : ∀ j, j < sz - off -> ∃ y, cc[i * sz + off + j]? = some y /\ one y /\ R w.heap D zar (get i (off + j)) y := by
           intro j hj
           obtain ⟨y, hy1, hy2, hy3⟩ := hrow i (off + j) (by omega) (by omega)
           rw [<- Nat.add_assoc] at hy1
           exact ⟨y, hy1, hy2, hy3⟩
         refine .iptr _ _ b (i * sz + off) (fun j => cc.getD (i * sz + off + j) undef) (.inr ⟨id, z, m, hi _ (by simp [zdj, zf2]), hμ⟩) (fun j hj => ?_) (fun j hj => ?_) (fun j hj => ?_)
         · obtain ⟨y, y1, _⟩ := key j hj
           rw [zao hh]; exact getD_some (Array.getElem?_eq_some_iff.1 y1).1
         · obtain ⟨y, y1, y2, _⟩ := key j hj
           rw [getD_some (Array.getElem?_eq_some_iff.1 y1).1] at y1; cases y1; exact y2
         · obtain ⟨y, y1, _, y3⟩ := key j hj
           rw [getD_some (Array.getElem?_eq_some_iff.1 y1).1] at y1; cases y1; exact up y3
     · cases e
   · cases e
 | fn k xs ys =>
   simp only [zlo] at e
   split at e
   · rename_i hf
     cases e
     refine ⟨up (zcv r hf), ?_⟩
     have none0 : ∀ l : List AV, zhm l = true -> zsg l = [] := by
       intro l
       induction l with
       | nil => intro _; rfl
       | cons y l ih =>
         intro hl
         simp only [zhm] at hl
         split at hl
         · rename_i hy
           simp only [zsg, ih hl]
           cases y <;> first | rfl | cases hy
         · cases hl
     simp only [zl8] at hf
     split at hf
     · rename_i hx
       intro i hi'
       simp [zdj, none0 _ hx, none0 _ hf, zb9] at hi'
     · cases hf
   · cases e
 | agg cs => cases e
 | tup cs => cases e
 | mp id =>
   simp only [zlo] at e
   split at e
   · rename_i kk n has val hg
     have hg := hob _ _ hg
     cases e
     cases r with
     | mp _ b z m hμ =>
       obtain ⟨es, clock, kf, hb, hn, hk, hr⟩ := h.obs id _ _ hg hμ
       refine ⟨.mpi _ _ _ _ b es clock kf (.inr ⟨id, z, m, hi _ (by simp [zdj, zf2]), hμ⟩) hb hn hk (fun i x hx => up (hr i x hx)), fun i hi' => ?_⟩
       simp [zdj, zf2] at hi'; subst hi'; exact ⟨_, hg, by simp⟩
   · cases e
 | bidx => cases e
 | aer => cases e
 | aep => cases e
 | asl => cases e
 | mpi kk n has val => cases e; exact ⟨up (zb8 r rfl), fun i hi' => by simp [zdj, zf2] at hi'⟩
 | dead => cases e; exact ⟨.dead _, fun i hi' => by simp [zdj, zf2] at hi'⟩
 | bool b => cases e; exact ⟨up (zb8 r rfl), fun i hi' => by simp [zdj, zf2] at hi'⟩
 | int k n => cases e; exact ⟨up (zb8 r rfl), fun i hi' => by simp [zdj, zf2] at hi'⟩
 | str l => cases e; exact ⟨up (zb8 r rfl), fun i hi' => by simp [zdj, zf2] at hi'⟩
 | flt k b => cases e; exact ⟨up (zb8 r rfl), fun i hi' => by simp [zdj, zf2] at hi'⟩
 | cpx k a b => cases e; exact ⟨up (zb8 r rfl), fun i hi' => by simp [zdj, zf2] at hi'⟩
 | nilp => cases e; exact ⟨up (zb8 r rfl), fun i hi' => by simp [zdj, zf2] at hi'⟩
 | nilm => cases e; exact ⟨up (zb8 r rfl), fun i hi' => by simp [zdj, zf2] at hi'⟩
 | nilf => cases e; exact ⟨up (zb8 r rfl), fun i hi' => by simp [zdj, zf2] at hi'⟩
 | nils => cases e; exact ⟨up (zb8 r rfl), fun i hi' => by simp [zdj, zf2] at hi'⟩
 | nili => cases e; exact ⟨up (zb8 r rfl), fun i hi' => by simp [zdj, zf2] at hi'⟩
 | ifb b => cases e; exact ⟨up (zb8 r rfl), fun i hi' => by simp [zdj, zf2] at hi'⟩
 | emp => cases e; exact ⟨up (zb8 r rfl), fun i hi' => by simp [zdj, zf2] at hi'⟩
 | emz => cases e; exact ⟨up (zb8 r rfl), fun i hi' => by simp [zdj, zf2] at hi'⟩
 | lst sz n get => cases e; exact ⟨up (zb8 r rfl), fun i hi' => by simp [zdj, zf2] at hi'⟩
 | iptr n get => cases e; exact ⟨up (zb8 r rfl), fun i hi' => by simp [zdj, zf2] at hi'⟩
 | lstx sz n get => cases e; exact ⟨up (zb8 r rfl), fun i hi' => by simp [zdj, zf2] at hi'⟩
 | arr n get => cases e; exact ⟨up (zb8 r rfl), fun i hi' => by simp [zdj, zf2] at hi'⟩
theorem zl2 (h : Sim base M W nt f g c a w D μ) {ob : Nat -> Option Ob} (hob : ∀ id z, ob id = some z -> g id = some z) {x x' : AV} {v : Value} (e : zlo std ob x = some x') (r : R w.heap D μ x v) {ids : List Nat} (hi : ∀ i, i ∈ zdj x -> i ∈ ids) :
   R w.heap (DF D μ ids) zar x' v /\ zr9 g (zdj x) := by
 by_cases hx : ∃ id sz off n cap, x = .slc id sz off n cap
 · obtain ⟨id, sz, off, n, cap, rfl⟩ := hx
   exact zuz (x := .sl id sz off n) h hob e r.less hi (fun _ _ _ _ _ h => by cases h)
 · exact zuz h hob e r hi (fun id sz off n cap h => hx ⟨id, sz, off, n, cap, h⟩)
theorem zir {ob : Nat -> Option Ob} (hob : ∀ id z, ob id = some z -> g id = some z) {x x' : AV} (e : zlo std ob x = some x') : zr9 g (zdj x) := by
 intro i hi'
 cases x with
 | sl id sz off n =>
   simp [zdj, zf2] at hi'; subst hi'
   simp only [zlo] at e
   split at e
   · rename_i hg; exact ⟨_, hob _ _ hg, by simp⟩
   · cases e
 | slc id sz off n cap =>
   simp [zdj, zf2] at hi'; subst hi'
   simp only [zlo] at e
   split at e
   · rename_i hg; exact ⟨_, hob _ _ hg, by simp⟩
   · cases e
 | ref id off =>
   simp [zdj, zf2] at hi'; subst hi'
   simp only [zlo] at e
   split at e
   · rename_i hg; exact ⟨_, hob _ _ hg, by simp⟩
   · rename_i hg; exact ⟨_, hob _ _ hg, by simp⟩
   · cases e
 | eref id sz j off =>
   simp [zdj, zf2] at hi'; subst hi'
   simp only [zlo] at e
   split at e
   · rename_i hg; exact ⟨_, hob _ _ hg, by simp⟩
   · cases e
 | mp id =>
   simp [zdj, zf2] at hi'; subst hi'
   simp only [zlo] at e
   split at e
   · rename_i hg; exact ⟨_, hob _ _ hg, by simp⟩
   · cases e
 | bidx => cases e
 | fn k xs ys =>
   simp only [zlo] at e
   split at e
   · rename_i hf
     have none0 : ∀ l : List AV, zhm l = true -> zsg l = [] := by
       intro l
       induction l with
       | nil => intro _; rfl
       | cons y l ih =>
         intro hl
         simp only [zhm] at hl
         split at hl
         · rename_i hy
           simp only [zsg, ih hl]
           cases y <;> first | rfl | cases hy
         · cases hl
     simp only [zl8] at hf
     split at hf
     · rename_i hx
       simp [zdj, none0 _ hx, none0 _ hf, zb9] at hi'
     · cases hf
   · cases e
 | _ => simp [zdj, zf2] at hi'
theorem zl1 (h : Sim base M W nt f g c a w D μ) {ob : Nat -> Option Ob} (hob : ∀ id z, ob id = some z -> g id = some z) : ∀ {xs xs' : List AV}, immL std ob xs = some xs' -> ∀ {ids : List Nat}, (∀ i, i ∈ zf1 xs -> i ∈ ids) ->
   xs'.length = xs.length /\ zr9 g (zf1 xs) /\ ∀ (i : Nat) x x' v, xs[i]? = some x -> xs'[i]? = some x' -> R w.heap D μ x v -> R w.heap (DF D μ ids) zar x' v
 | [], xs', e, ids, hi => by
   cases e
   exact ⟨rfl, fun i hi' => by simp [zf1] at hi', fun i x x' v hx => by simp at hx⟩
 | x :: xs, xs', e, ids, hi => by
   simp only [immL] at e
   split at e
   · rename_i y hy
     split at e
     · rename_i ys hys
       cases e
       have hi1 : ∀ i, i ∈ zdj x -> i ∈ ids := fun i h => hi i (by simp [zf1, zae, h])
       have hi2 : ∀ i, i ∈ zf1 xs -> i ∈ ids := fun i h => hi i (by simp [zf1, zae, h])
       obtain ⟨l1, l2, l3⟩ := zl1 h hob hys hi2
       refine ⟨by simp [l1], fun i hi' => ?_, fun i z z' v hz hz' r => ?_⟩
       · simp only [zf1, zae, List.mem_append] at hi'
         rcases hi' with hi' | hi'
         · exact zir hob hy i hi'
         · exact l2 i hi'
       · cases i with
         | zero => simp at hz hz'; subst hz; subst hz'; exact (zl2 h hob hy r hi1).1
         | succ i => exact l3 i z z' v (by simpa using hz) (by simpa using hz') r
     · cases e
   · cases e
theorem yce (h : Sim base M W nt f g c a w D μ) {ob : Nat -> Option Ob} (hob : ∀ id z, ob id = some z -> g id = some z) {x x' : AV} (e : ylk std ob x = some x') {ids : List Nat} (hi : ∀ i, i ∈ zv0 x -> i ∈ ids) :
   zr9 g (zv0 x) /\ ∀ v, R w.heap D μ x v -> R w.heap (DF D μ ids) zar x' v := by
 cases x with
 | agg cs =>
   simp only [ylk] at e
   split at e
   · rename_i ds hds
     cases e
     obtain ⟨l1, l2, l3⟩ := zl1 h hob hds hi
     refine ⟨l2, fun v r => ?_⟩
     obtain ⟨us, rfl, h1, e1, hr⟩ := r.inv_agg
     refine .agg _ _ (by rw [l1, e1]) h1 (fun i x' v hx' hv => ?_)
     have hlt : i < cs.length := by rw [<- l1]; exact (List.getElem?_eq_some_iff.1 hx').1
     exact l3 i cs[i] x' v (by simp [hlt]) hx' (hr i _ v (by simp [hlt]) hv)
   · cases e
 | fn k xs ys =>
   simp only [ylk] at e
   split at e
   · rename_i xs' hxs
     split at e
     · rename_i ys' hys
       cases e
       obtain ⟨l1, l2, l3⟩ := zl1 h hob hxs (ids := ids) (fun i h => hi i (by simp [zv0, zae, h]))
       obtain ⟨m1, m2, m3⟩ := zl1 h hob hys (ids := ids) (fun i h => hi i (by simp [zv0, zae, h]))
       refine ⟨fun i hi' => ?_, fun v r => ?_⟩
       · simp only [zv0, zae, List.mem_append] at hi'
         rcases hi' with hi' | hi'
         · exact l2 i hi'
         · exact m2 i hi'
       · cases r with
         | fn _ _ _ vs us e1 e2 h1 h2 =>
           refine .fn _ _ _ _ _ (by rw [l1, e1]) (by rw [m1, e2]) (fun i x' v hx' hv => ?_) (fun i x' v hx' hv => ?_)
           · have hlt : i < xs.length := by rw [<- l1]; exact (List.getElem?_eq_some_iff.1 hx').1
             exact l3 i xs[i] x' v (by simp [hlt]) hx' (h1 i _ v (by simp [hlt]) hv)
           · have hlt : i < ys.length := by rw [<- m1]; exact (List.getElem?_eq_some_iff.1 hx').1
             exact m3 i ys[i] x' v (by simp [hlt]) hx' (h2 i _ v (by simp [hlt]) hv)
     · cases e
   · cases e
 | tup cs => (simp only [ylk, zlo] at e; cases e)
 | _ => (simp only [ylk] at e; exact ⟨zir hob e, fun v r => (zl2 h hob e r hi).1⟩)
theorem zjp (h : Sim base M W nt f g c a w D μ) {ob : Nat -> Option Ob} (hob : ∀ id z, ob id = some z -> g id = some z) : ∀ {xs xs' : List AV}, immVs std ob xs = some xs' -> ∀ {ids : List Nat}, (∀ i, i ∈ zdz xs -> i ∈ ids) ->
   xs'.length = xs.length /\ zr9 g (zdz xs) /\ ∀ (i : Nat) x x' v, xs[i]? = some x -> xs'[i]? = some x' -> R w.heap D μ x v -> R w.heap (DF D μ ids) zar x' v
 | [], xs', e, ids, hi => by
   cases e
   exact ⟨rfl, fun i hi' => by simp [zdz] at hi', fun i x x' v hx => by simp at hx⟩
 | x :: xs, xs', e, ids, hi => by
   simp only [immVs] at e
   split at e
   · rename_i y hy
     split at e
     · rename_i ys hys
       cases e
       have hi1 : ∀ i, i ∈ zv0 x -> i ∈ ids := fun i h => hi i (by simp [zdz, zae, h])
       have hi2 : ∀ i, i ∈ zdz xs -> i ∈ ids := fun i h => hi i (by simp [zdz, zae, h])
       obtain ⟨l1, l2, l3⟩ := zjp h hob hys hi2
       obtain ⟨v1, v2⟩ := yce h hob hy hi1
       refine ⟨by simp [l1], fun i hi' => ?_, fun i z z' v hz hz' r => ?_⟩
       · simp only [zdz, zae, List.mem_append] at hi'
         rcases hi' with hi' | hi'
         · exact v1 i hi'
         · exact l2 i hi'
       · cases i with
         | zero => simp at hz hz'; subst hz; subst hz'; exact v2 v r
         | succ i => exact l3 i z z' v (by simpa using hz) (by simpa using hz') r
     · cases e
   · cases e
def zy0 (D : Nat -> Prop) (μ : Mu) : Nat -> Prop := fun b => D b \/ ∃ id z m, μ id = some (some (b, z, m))
theorem DF_W {ids : List Nat} {b : Nat} (hb : DF D μ ids b) : zy0 D μ b := by
 rcases hb with hb | ⟨id, z, m, _, h⟩
 · exact .inl hb
 · exact .inr ⟨id, z, m, h⟩
theorem upW {x : AV} {v : Value} (r : R w.heap D zar x v) : R w.heap (zy0 D μ) zar x v := r.mono (fun _ _ => rfl) (fun _ h => .inl h) (fun _ _ h => h)
theorem yqb (h : Sim base M W nt f g c a w D μ) {p k ty sz n0 : Nat} {len : Nat -> Nat} {get : Nat -> Nat -> Nat -> AV} (hg : g p = some (.tab ty sz n0 len get)) {off n : Nat} {v : Value} (r : R w.heap D μ (.asl p k sz off n) v) :
   R w.heap (zy0 D μ) zar (.lst sz n (fun i j => get k (off + i) j)) v := by
 cases r with
 | aslv _ _ _ ad hm => exact .lst0 _ _ _ _ (fun _ => rfl)
 | asl0 => exact .lst0 _ _ _ _ (fun _ => rfl)
 | asl _ _ _ _ _ b z m cap hμ hn hz ho =>
   obtain ⟨hk, hm, cc, t', fr, hh, hcs, _, hle, hrow⟩ := zk2 h hg hμ
   have key : ∀ i j, i < n -> j < sz -> ∃ y, cc[off * sz + i * sz + j]? = some y /\ one y /\ R w.heap D zar (get k (off + i) j) y := by
     intro i j h1 h2
     obtain ⟨y, y1, y2, y3⟩ := hrow (off + i) j (by omega) h2
     rw [Nat.add_mul] at y1
     exact ⟨y, y1, y2, y3⟩
   refine .lst _ _ _ b (off * sz) cap (fun i j => cc.getD (off * sz + i * sz + j) undef) (.inr ⟨_, z, m, hμ⟩) hn (fun i j h1 h2 => ?_) (fun i j h1 h2 => ?_) (fun i j h1 h2 => ?_)
   · obtain ⟨y, y1, _⟩ := key i j h1 h2
     rw [zao hh]; exact getD_some (Array.getElem?_eq_some_iff.1 y1).1
   · obtain ⟨y, y1, y2, _⟩ := key i j h1 h2
     rw [getD_some (Array.getElem?_eq_some_iff.1 y1).1] at y1; cases y1; exact y2
   · obtain ⟨y, y1, _, y3⟩ := key i j h1 h2
     rw [getD_some (Array.getElem?_eq_some_iff.1 y1).1] at y1; cases y1; exact upW y3
theorem zvo {ob : Nat -> Option Ob} {x : AV} {v : Value} (hx : ∀ p k sz off n, x ≠ .asl p k sz off n) (r : R w.heap D μ x v) : R w.heap (zy0 D μ) zar (yoa ob x) v := by
 have key : yoa ob x = match zki x with | true => x | false => .dead := by
   cases x <;> first | rfl | exact absurd rfl (hx _ _ _ _ _)
 rw [key]
 split
 · rename_i e; exact upW (zb8 r e)
 · exact .dead _
theorem yo9 (h : Sim base M W nt f g c a w D μ) {ob : Nat -> Option Ob} (hob : ∀ id z, ob id = some z -> g id = some z) {x : AV} {v : Value} (r : R w.heap D μ x v) : R w.heap (zy0 D μ) zar (yoa ob x) v := by
 by_cases hx : ∃ p k sz off n, x = .asl p k sz off n
 · obtain ⟨p, k, sz, off, n, rfl⟩ := hx
   simp only [yoa]
   split
   · rename_i hg
     split
     · rename_i hsz
       obtain rfl := za1 hsz
       exact yqb h (hob _ _ hg) r
     · exact .dead _
   · exact .dead _
 · exact zvo (fun p k sz off n e => hx ⟨p, k, sz, off, n, e⟩) r
theorem zz3 (h : Sim base M W nt f g c a w D μ) {ob : Nat -> Option Ob} (hob : ∀ id z, ob id = some z -> g id = some z) {x x' : AV} {v : Value} (e : yqs std ob x = some x') (r : R w.heap D μ x v) : R w.heap (zy0 D μ) zar x' v := by
 have imm : zlo std ob x = some x' -> R w.heap (zy0 D μ) zar x' v := fun e => (zl2 h hob e r (ids := zdj x) (fun _ h => h)).1.mono (fun _ _ => rfl) (fun _ h => DF_W h) (fun _ _ h => h)
 unfold yqs at e
 split at e
 · rename_i id sz off n
   split at e
   · rename_i q ty sz' m0 get hg
     have hg := hob _ _ hg
     split at e
     · rename_i hsz hq
       obtain rfl := za1 hsz
       cases e
       cases r with
       | slv => exact .lst0 _ _ _ _ (fun _ => rfl)
       | sl0 => exact .lst0 _ _ _ _ (fun _ => rfl)
       | sl _ _ _ _ b z m cap hμ hn hz ho =>
         obtain ⟨hm, cc, t', fr, hh, hcs, _, hle, hrow⟩ := h.obs id _ _ hg hμ
         have key : ∀ i j, i < n -> j < sz -> ∃ y, cc[off * sz + i * sz + j]? = some y /\ one y /\ R w.heap D (pm q μ) (get (off + i) j) y := by
           intro i j h1 h2
           obtain ⟨y, y1, y2, y3⟩ := hrow (off + i) j (by omega) h2
           rw [Nat.add_mul] at y1
           exact ⟨y, y1, y2, y3⟩
         refine .lst _ _ _ b (off * sz) cap (fun i j => cc.getD (off * sz + i * sz + j) undef) (.inr ⟨id, z, m, hμ⟩) hn (fun i j h1 h2 => ?_) (fun i j h1 h2 => ?_) (fun i j h1 h2 => ?_)
         · obtain ⟨y, y1, _⟩ := key i j h1 h2
           rw [zao hh]; exact getD_some (Array.getElem?_eq_some_iff.1 y1).1
         · obtain ⟨y, y1, y2, _⟩ := key i j h1 h2
           rw [getD_some (Array.getElem?_eq_some_iff.1 y1).1] at y1; cases y1; exact y2
         · obtain ⟨y, y1, _, y3⟩ := key i j h1 h2
           rw [getD_some (Array.getElem?_eq_some_iff.1 y1).1] at y1; cases y1
           exact yo9 h hob y3.unpm
     · cases e
   · exact imm e
 · rename_i p k sz off n
   split at e
   · rename_i hg
     split at e
     · rename_i hsz
       obtain rfl := za1 hsz
       cases e
       exact yqb h (hob _ _ hg) r
     · cases e
   · cases e
 · cases e
 · cases e
 · exact imm e
theorem zz2 (h : Sim base M W nt f g c a w D μ) {ob : Nat -> Option Ob} (hob : ∀ id z, ob id = some z -> g id = some z) : ∀ {xs xs' : List AV}, yqr std ob xs = some xs' ->
   xs'.length = xs.length /\ ∀ (i : Nat) x x' v, xs[i]? = some x -> xs'[i]? = some x' -> R w.heap D μ x v -> R w.heap (zy0 D μ) zar x' v
 | [], xs', e => by
   cases e
   exact ⟨rfl, fun i x x' v hx => by simp at hx⟩
 | x :: xs, xs', e => by
   simp only [yqr] at e
   split at e
   · rename_i y hy
     split at e
     · rename_i ys hys
       cases e
       obtain ⟨l1, l3⟩ := zz2 h hob hys
       refine ⟨by simp [l1], fun i z z' v hz hz' r => ?_⟩
       cases i with
       | zero => simp at hz hz'; subst hz; subst hz'; exact zz3 h hob hy r
       | succ i => exact l3 i z z' v (by simpa using hz) (by simpa using hz') r
     · cases e
   · cases e
theorem yjy (h : Sim base M W nt f g c a w D μ) {ob : Nat -> Option Ob} (hob : ∀ id z, ob id = some z -> g id = some z) {x x' : AV} (e : yrr std ob x = some x') {v : Value} (r : R w.heap D μ x v) : R w.heap (zy0 D μ) zar x' v := by
 unfold yrr at e
 split at e
 · rename_i cs
   split at e
   · rename_i ds hds
     cases e
     obtain ⟨l1, l3⟩ := zz2 h hob hds
     obtain ⟨us, rfl, h1, e1, hr⟩ := r.inv_agg
     refine .agg _ _ (by rw [l1, e1]) h1 (fun i x' v hx' hv => ?_)
     have hlt : i < cs.length := by rw [<- l1]; exact (List.getElem?_eq_some_iff.1 hx').1
     exact l3 i cs[i] x' v (by simp [hlt]) hx' (hr i _ v (by simp [hlt]) hv)
   · cases e
 · exact zz3 h hob e r
theorem zni (h : Sim base M W nt f g c a w D μ) {ob : Nat -> Option Ob} (hob : ∀ id z, ob id = some z -> g id = some z) : ∀ {xs xs' : List AV}, zvp std ob xs = some xs' ->
   xs'.length = xs.length /\ ∀ (i : Nat) x x' v, xs[i]? = some x -> xs'[i]? = some x' -> R w.heap D μ x v -> R w.heap (zy0 D μ) zar x' v
 | [], xs', e => by
   cases e
   exact ⟨rfl, fun i x x' v hx => by simp at hx⟩
 | x :: xs, xs', e => by
   simp only [zvp] at e
   split at e
   · rename_i y hy
     split at e
     · rename_i ys hys
       cases e
       obtain ⟨l1, l3⟩ := zni h hob hys
       refine ⟨by simp [l1], fun i z z' v hz hz' r => ?_⟩
       cases i with
       | zero => simp at hz hz'; subst hz; subst hz'; exact yjy h hob hy r
       | succ i => exact l3 i z z' v (by simpa using hz) (by simpa using hz') r
     · cases e
   · cases e
theorem zrl {x : AV} {h : Array Obj} {D D' : Nat -> Prop} {μ' : Mu} {v : Value} (r : R h D μ x v) (e : yf5 x = true) : R h D' μ' x v := by
 cases x <;> first | (cases e; done) | (cases r; first | exact .bool _ | exact .int _ _ | exact .str _ _ (by assumption) | exact .flt _ _ | exact .cpx _ _ _ | exact .nilp | exact .nilm | exact .nilf | exact .nils | exact .nili)
theorem zka : ∀ {xs : List AV}, zze xs = true -> ∀ (i : Nat) x, xs[i]? = some x -> yf5 x = true
 | x :: xs, e, i, y, hy => by
   simp only [zze] at e
   split at e
   · rename_i h1
     cases i with
     | zero => simp at hy; subst hy; exact h1
     | succ i => exact zka e i y (by simpa using hy)
   · cases e
theorem yk3 {x : AV} {h : Array Obj} {D D' : Nat -> Prop} {μ' : Mu} {v : Value} (r : R h D μ x v) (e : zzd x = true) : R h D' μ' x v := by
 unfold zzd at e
 split at e
 · obtain ⟨us, rfl, h1, e1, hr⟩ := r.inv_agg
   exact .agg _ _ e1 h1 fun i x v hx hv => zrl (hr i x v hx hv) (zka e i x hx)
 · obtain ⟨us, rfl, e1, hr⟩ := r.inv_tup
   exact .tup _ _ e1 fun i x v hx hv => zrl (hr i x v hx hv) (zka e i x hx)
 · exact zrl r e
theorem znm (h : Sim base M W nt f g c a w D μ) {ob : Nat -> Option Ob} (hob : ∀ id z, ob id = some z -> g id = some z) {q : Nat} : ∀ {xs xs' : List AV}, putP std q ob xs = some xs' -> ∀ {ids : List Nat}, (∀ i, i ∈ zf1 xs -> i ∈ ids) ->
   xs'.length = xs.length /\ zr9 g (zf1 xs) /\ ∀ (i : Nat) x x' v, xs[i]? = some x -> xs'[i]? = some x' -> R w.heap D μ x v -> R w.heap (DF D μ ids) (pm q μ) x' v
 | [], xs', e, ids, hi => by
   cases e
   exact ⟨rfl, fun i hi' => by simp [zf1] at hi', fun i x x' v hx => by simp at hx⟩
 | x :: xs, xs', e, ids, hi => by
   simp only [putP] at e
   split at e
   · rename_i y hy
     split at e
     · rename_i ys hys
       cases e
       have hi1 : ∀ i, i ∈ zdj x -> i ∈ ids := fun i h => hi i (by simp [zf1, zae, h])
       have hi2 : ∀ i, i ∈ zf1 xs -> i ∈ ids := fun i h => hi i (by simp [zf1, zae, h])
       obtain ⟨l1, l2, l3⟩ := znm h hob hys hi2
       have up : q < zbv -> ∀ k, pm q μ (mid q k) = μ (mid q k) := fun hq k => by
         obtain ⟨m1, m2, _⟩ := ze6 hq k
         unfold pm; rw [if_pos ⟨m1, m2⟩]
       have one1 : zr9 g (zdj x) /\ ∀ v, R w.heap D μ x v -> R w.heap (DF D μ ids) (pm q μ) y v := by
         split at hy
         · rename_i p k sz' off n
           split at hy
           · rename_i hp hlt
             obtain rfl := za1 hp
             have up := up (zan hlt)
             cases hy
             refine ⟨fun i hi' => by simp [zdj, zf2] at hi', fun v r => ?_⟩
             cases r with
             | aslv _ _ _ ad hm => exact .aslv _ _ _ ad ((up k).trans hm)
             | asl0 _ _ _ _ b z m o hm ho => exact .asl0 _ _ _ _ b z m o ((up k).trans hm) ho
             | asl _ _ _ _ _ b z m cap hm hn hz ho => exact .asl _ _ _ _ _ b z m cap ((up k).trans hm) hn hz ho
           · cases hy
         · rename_i p k sz' j off
           split at hy
           · rename_i hp hlt
             obtain rfl := za1 hp
             have up := up (zan hlt)
             cases hy
             refine ⟨fun i hi' => by simp [zdj, zf2] at hi', fun v r => ?_⟩
             cases r with
             | aer _ _ _ _ _ b z m hm hj => exact .aer _ _ _ _ _ b z m ((up k).trans hm) hj
           · cases hy
         · rename_i cc p k sz' j off
           split at hy
           · rename_i hp hlt
             obtain rfl := za1 hp
             have up := up (zan hlt)
             cases hy
             refine ⟨fun i hi' => by simp [zdj, zf2] at hi', fun v r => ?_⟩
             cases r with
             | aepn => exact .aepn _ _ _ _ _
             | aepp _ _ _ _ _ b z m hm hj => exact .aepp _ _ _ _ _ b z m ((up k).trans hm) hj
           · cases hy
         · exact ⟨zir hob hy, fun v r => (zl2 h hob hy r hi1).1.free⟩
       refine ⟨by simp [l1], fun i hi' => ?_, fun i z z' v hz hz' r => ?_⟩
       · simp only [zf1, zae, List.mem_append] at hi'
         rcases hi' with hi' | hi'
         · exact one1.1 i hi'
         · exact l2 i hi'
       · cases i with
         | zero => simp at hz hz'; subst hz; subst hz'; exact one1.2 v r
         | succ i => exact l3 i z z' v (by simpa using hz) (by simpa using hz') r
     · cases e
   · cases e
end
end Sy
end Go.Proofs.Ytogomcfgfnlclaa
namespace Go.Proofs.Ytogomcfgfnlclaa
namespace Sy
open Go Go.RowKit
set_option linter.unusedSimpArgs false
set_option linter.unusedVariables false
theorem zer (n : Nat) : zu3 n (0, 0) := fun o _ => by omega
theorem zda (z : List AV) : ∀ n, (zd3 z n).length = n * z.length
 | 0 => by simp [zd3]
 | n + 1 => by rw [zd3, zae, List.length_append, zda z n, Nat.add_mul]; omega
theorem zfe (z : List AV) : ∀ n i j, i < n -> j < z.length -> (zd3 z n)[i * z.length + j]? = z[j]?
 | n + 1, 0, j, _, hj => by rw [zd3, zae]; simp [List.getElem?_append_left hj]
 | n + 1, i + 1, j, hi, hj => by
   rw [zd3, zae, List.getElem?_append_right (by rw [Nat.add_mul]; omega)]
   rw [show (i + 1) * z.length + j - z.length = i * z.length + j by rw [Nat.add_mul]; omega]
   exact zfe z n i j (by omega) hj
theorem ya3 {x y : AV} (h : ya4 x y = true) : x = y := by
 unfold ya4 at h
 split at h
 · rw [of_decide_eq_true h]
 · split at h
   · rename_i hk; rw [of_decide_eq_true hk, of_decide_eq_true h]
   · cases h
 · rw [of_decide_eq_true h]
 all_goals first | rfl | cases h
theorem zmc : ∀ {xs ys : List AV}, znl xs ys = true -> xs = ys
 | [], [], _ => rfl
 | x :: xs, y :: ys, h => by
   simp only [znl] at h
   split at h
   · rename_i h1
     rw [ya3 h1, zmc h]
   · cases h
theorem yjz (x : AV) : zci std true x .dead = x := by cases x <;> rfl
theorem yk0 (y : AV) : zci std false .dead y = y := by cases y <;> rfl
theorem zvt {h : Array Obj} {D : Nat -> Prop} {μ : Mu} {x : AV} {v : Value} (r : R h D μ x v) : ∀ y, y ≠ .dead -> R h D μ (zci std true x y) v := by
 induction r with
 | bool b => intro y hvy; cases y <;> first | exact absurd rfl hvy | exact .bool _ | exact .dead _
 | int k n => intro y hvy; cases y <;> first | exact absurd rfl hvy | exact .dead _ | skip
              rename_i k' m
              simp only [zci]
              split
              · exact .int _ _
              · exact .dead _
 | str l s e => intro y hvy; cases y <;> first | exact absurd rfl hvy | exact .str _ _ e | exact .dead _
 | cpx k a b => intro y hvy; cases y <;> first | exact absurd rfl hvy | exact .dead _ | skip
                simp only [zci]
                split
                · exact .cpx _ _ _
                · exact .dead _
 | nilp => intro y hvy; cases y <;> first | exact absurd rfl hvy | exact .nilp | exact .dead _
 | nilm => intro y hvy; cases y <;> first | exact absurd rfl hvy | exact .nilm | exact .dead _
 | nilf => intro y hvy; cases y <;> first | exact absurd rfl hvy | exact .nilf | exact .dead _
 | nils => intro y hvy; cases y <;> first | exact absurd rfl hvy | exact .nils | exact .lst0 _ _ _ _ (fun _ => rfl) | exact .dead _
 | nili => intro y hvy; cases y <;> first | exact absurd rfl hvy | exact .nili | exact .dead _
 | ifn => intro y hvy; cases y <;> first | exact absurd rfl hvy | exact .ifn | exact .dead _
 | ifs t p => intro y hvy; cases y <;> first | exact absurd rfl hvy | exact .ifs _ _ | exact .dead _
 | emp a cap => intro y hvy; cases y <;> first | exact absurd rfl hvy | exact .dead _
 | emz a => intro y hvy; cases y <;> first | exact absurd rfl hvy | exact .dead _
 | lst0 sz get a cap hn => intro y hvy; cases y <;> first | exact absurd rfl hvy | exact .lst0 _ _ _ _ hn | exact .dead _ | skip
                           simp only [zci]
                           split
                           · exact .lst0 _ _ _ _ hn
                           · exact .dead _
 | lst sz n get b o cap vs hD hc hv h1 hr ih =>
   intro y hvy
   cases y with
   | nils => exact .lst _ _ _ b o cap vs hD hc hv h1 hr
   | asl p' k' sz' off' n' => exact .lst _ _ _ b o cap vs hD hc hv h1 hr
   | lst sz' n' get' =>
     simp only [zci]
     split
     · exact .lst _ _ _ b o cap vs hD hc hv h1 hr
     · exact .dead _
   | dead => exact absurd rfl hvy
   | _ => exact .dead _
 | aepn p k sz i off =>
   intro y hvy
   cases y with
   | aep c' p' k' sz' i' off' =>
     simp only [zci]
     split
     · exact .aepn _ _ _ _ _
     · exact .dead _
   | dead => exact absurd rfl hvy
   | _ => exact .dead _
 | aepp p k sz i off b z m hm hi =>
   intro y hvy
   cases y with
   | aep c' p' k' sz' i' off' =>
     simp only [zci]
     split
     · exact .aepp _ _ _ _ _ b z m hm hi
     · exact .dead _
   | dead => exact absurd rfl hvy
   | _ => exact .dead _
 | aer p k sz i off b z m hm hi =>
   intro y hvy
   cases y with
   | aer p' k' sz' i' off' =>
     simp only [zci]
     split
     · exact .aer _ _ _ _ _ b z m hm hi
     · exact .dead _
   | dead => exact absurd rfl hvy
   | _ => exact .dead _
 | aslv p k sz a hm =>
   intro y hvy
   cases y with
   | lst sz' n' get' => exact .aslv _ _ _ a hm
   | asl p' k' sz' off' n' =>
     simp only [zci]
     split
     · exact .aslv _ _ _ a hm
     · exact .dead _
   | dead => exact absurd rfl hvy
   | _ => exact .dead _
 | asl0 p k sz off b z m o hm ho =>
   intro y hvy
   cases y with
   | lst sz' n' get' => exact .asl0 _ _ _ _ b z m o hm ho
   | asl p' k' sz' off' n' =>
     simp only [zci]
     split
     · exact .asl0 _ _ _ _ b z m o hm ho
     · exact .dead _
   | dead => exact absurd rfl hvy
   | _ => exact .dead _
 | asl p k sz off n b z m cap hm hn hz ho =>
   intro y hvy
   cases y with
   | lst sz' n' get' => exact .asl _ _ _ _ _ b z m cap hm hn hz ho
   | asl p' k' sz' off' n' =>
     simp only [zci]
     split
     · exact .asl _ _ _ _ _ b z m cap hm hn hz ho
     · exact .dead _
   | dead => exact absurd rfl hvy
   | _ => exact .dead _
 | _ => intro y hvy; cases y <;> first | exact absurd rfl hvy | exact .dead _
theorem zrj {h : Array Obj} {D : Nat -> Prop} {μ : Mu} {y : AV} {v : Value} (r : R h D μ y v) : ∀ x, x ≠ .dead -> R h D μ (zci std false x y) v := by
 induction r with
 | bool b => intro x hvx; cases x <;> first | exact absurd rfl hvx | exact .bool _ | exact .dead _
 | int k n => intro x hvx; cases x <;> first | exact absurd rfl hvx | exact .dead _ | skip
              rename_i k' m
              simp only [zci]
              split
              · rename_i hk
                rw [of_decide_eq_true hk]
                exact .int _ _
              · exact .dead _
 | str l s e => intro x hvx; cases x <;> first | exact absurd rfl hvx | exact .str _ _ e | exact .dead _
 | cpx k a b => intro x hvx; cases x <;> first | exact absurd rfl hvx | exact .dead _ | skip
                simp only [zci]
                split
                · rename_i hk
                  rw [of_decide_eq_true hk]
                  exact .cpx _ _ _
                · exact .dead _
 | nilp => intro x hvx; cases x <;> first | exact absurd rfl hvx | exact .nilp | exact .dead _
 | nilm => intro x hvx; cases x <;> first | exact absurd rfl hvx | exact .nilm | exact .dead _
 | nilf => intro x hvx; cases x <;> first | exact absurd rfl hvx | exact .nilf | exact .dead _
 | nils => intro x hvx; cases x <;> first | exact absurd rfl hvx | exact .nils | exact .lst0 _ _ _ _ (fun _ => rfl) | exact .dead _
 | nili => intro x hvx; cases x <;> first | exact absurd rfl hvx | exact .nili | exact .dead _
 | ifn => intro x hvx; cases x <;> first | exact absurd rfl hvx | exact .ifn | exact .dead _
 | ifs t p => intro x hvx; cases x <;> first | exact absurd rfl hvx | exact .ifs _ _ | exact .dead _
 | emp a cap => intro x hvx; cases x <;> first | exact absurd rfl hvx | exact .dead _
 | emz a => intro x hvx; cases x <;> first | exact absurd rfl hvx | exact .dead _
 | lst0 sz get a cap hn => intro x hvx; cases x <;> first | exact absurd rfl hvx | exact .lst0 _ _ _ _ hn | exact .dead _ | skip
                           simp only [zci]
                           split
                           · exact .lst0 _ _ _ _ hn
                           · exact .dead _
 | lst sz n get b o cap vs hD hc hv h1 hr ih =>
   intro x hvx
   cases x with
   | nils => exact .lst _ _ _ b o cap vs hD hc hv h1 hr
   | asl p' k' sz' off' n' => exact .lst _ _ _ b o cap vs hD hc hv h1 hr
   | lst sz' n' get' =>
     simp only [zci]
     split
     · rename_i hk
       obtain rfl := of_decide_eq_true hk
       exact .lst _ _ _ b o cap vs hD hc hv h1 hr
     · exact .dead _
   | dead => exact absurd rfl hvx
   | _ => exact .dead _
 | aepn p k sz i off =>
   intro x hvx
   cases x with
   | aep c' p' k' sz' i' off' =>
     simp only [zci]
     split
     · exact .aepn _ _ _ _ _
     · exact .dead _
   | dead => exact absurd rfl hvx
   | _ => exact .dead _
 | aepp p k sz i off b z m hm hi =>
   intro x hvx
   cases x with
   | aep c' p' k' sz' i' off' =>
     simp only [zci]
     split
     · rename_i e1 e2 e3 e4
       obtain rfl := za1 e1
       obtain rfl := za1 e2
       obtain rfl := za1 e3
       obtain rfl := za1 e4
       exact .aepp _ _ _ _ _ b z m hm hi
     · exact .dead _
   | dead => exact absurd rfl hvx
   | _ => exact .dead _
 | aer p k sz i off b z m hm hi =>
   intro x hvx
   cases x with
   | aer p' k' sz' i' off' =>
     simp only [zci]
     split
     · rename_i e1 e2 e3
       obtain rfl := za1 e1
       obtain rfl := za1 e2
       obtain rfl := za1 e3
       exact .aer _ _ _ _ _ b z m hm hi
     · exact .dead _
   | dead => exact absurd rfl hvx
   | _ => exact .dead _
 | aslv p k sz a hm =>
   intro x hvx
   cases x with
   | lst sz' n' get' => exact .aslv _ _ _ a hm
   | asl p' k' sz' off' n' =>
     simp only [zci]
     split
     · rename_i e1 e2
       obtain rfl := za1 e1
       obtain rfl := za1 e2
       exact .aslv _ _ _ a hm
     · exact .dead _
   | dead => exact absurd rfl hvx
   | _ => exact .dead _
 | asl0 p k sz off b z m o hm ho =>
   intro x hvx
   cases x with
   | lst sz' n' get' => exact .asl0 _ _ _ _ b z m o hm ho
   | asl p' k' sz' off' n' =>
     simp only [zci]
     split
     · rename_i e1 e2
       obtain rfl := za1 e1
       obtain rfl := za1 e2
       exact .asl0 _ _ _ _ b z m o hm ho
     · exact .dead _
   | dead => exact absurd rfl hvx
   | _ => exact .dead _
 | asl p k sz off n b z m cap hm hn hz ho =>
   intro x hvx
   cases x with
   | lst sz' n' get' => exact .asl _ _ _ _ _ b z m cap hm hn hz ho
   | asl p' k' sz' off' n' =>
     simp only [zci]
     split
     · rename_i e1 e2
       obtain rfl := za1 e1
       obtain rfl := za1 e2
       exact .asl _ _ _ _ _ b z m cap hm hn hz ho
     · exact .dead _
   | dead => exact absurd rfl hvx
   | _ => exact .dead _
 | _ => intro x hvx; cases x <;> first | exact absurd rfl hvx | exact .dead _
theorem zbq {h : Array Obj} {D : Nat -> Prop} {μ : Mu} {x : AV} {v : Value} (r : R h D μ x v) (y : AV) : R h D μ (zci std true x y) v := by
 by_cases hy : y = .dead
 · subst hy; rw [yjz]; exact r
 · exact zvt r y hy
theorem zba {h : Array Obj} {D : Nat -> Prop} {μ : Mu} {y : AV} {v : Value} (r : R h D μ y v) (x : AV) : R h D μ (zci std false x y) v := by
 by_cases hx : x = .dead
 · subst hx; rw [yk0]; exact r
 · exact zrj r x hx
theorem zi0 {x : Nat} (h : 600000 <= x) : zct x = false := by
 unfold zct
 split
 · rw [Bool.eq_false_iff]
   intro h2
   have := zan h2
   omega
 · rfl
theorem zov : 600000 <= zbv := by unfold zbv; exact Nat.le_of_ble_eq_true rfl
theorem zky {t : Nat} (ht : t < zbv) (k : Nat) : zct (mid t k) = false := zi0 (Nat.le_trans zov (zcu.1 (ze6 ht k).1))
theorem zz6 {x : AV} {hp : Array Obj} {D : Nat -> Prop} {μ : Mu} {v : Value} (y : AV) (r : R hp D μ y v) (k n : Nat) (hk : k ≠ n) : R hp D μ (zci std (L2 std za5 k n) x y) v := by
 rw [show L2 std za5 k n = false from zac hk]
 exact zba r _
section
variable {P : Program} {T : TT} {base : Nat} {M : Two} {W : World} {nt : Nat} {f : Nat -> Option AV} {g : Nat -> Option Ob} {c : Nat -> Bool} {a : Act} {w : World} {D : Nat -> Prop} {μ : Mu} {o : Oper}
theorem zbg {b : Bool} {x : Option Nat} {d : Nat} (e : cond b x none = some d) : b = true /\ x = some d := by cases b <;> simp_all
variable (h : Sim base M W nt f g c a w D μ) (hd : ∀ d, o.dst = some d -> d < nt)
include h hd
theorem zha {d : Nat} (hdst : o.dst = some d) (hnew : g d = none) (cs : Array Value) (t : TypeId) (ob : Ob) (m : Nat) (hne : ob ≠ .gone) (hok : zdg (w.alloc (.cells cs t)).heap D μ ob (some (w.heap.size, cs.size, m)))
   {v : AV} {u : Value} (run : (execOp a.eval o).run P w = .ok (.value u) (w.alloc (.cells cs t))) (r : ∀ D' μ', μ' d = some (some (w.heap.size, cs.size, m)) -> R (w.alloc (.cells cs t)).heap D' μ' v u) (ht : zau ob = false := by rfl) :
   Adv P base M W nt f g c o a w v [(d, ob)] [] := fun K Q hK => by
 unfold Oper.wp
 rw [run]
 have h1 := h.new (hd _ hdst) hnew ob cs t m hne hok ht
 exact hK _ _ ⟨_, _, h1.put hd (r _ _ (by simp))⟩
omit hd in
theorem yiz {xs : List AV} {C : Array Value} {t : TypeId} (h1 : ones C) (r : RL w.heap D μ xs C) : zdg (w.alloc (.cells C t)).heap D μ (.box t xs) (some (w.heap.size, C.size, 0)) := by
 refine ⟨C, t, (0, 0), heap_alloc_new _ _, rfl, ⟨zer _, rfl⟩, h1, r.1, fun i x v hx hv => (r.2 i x v hx hv).mono (fun b hb => Below.heap_alloc _ _ _ (h.dlt b hb)) (fun _ h => h) (fun _ _ h => h)⟩
omit hd in
theorem zfv {sz n : Nat} {get : Nat -> Nat -> AV} {C : Array Value} {t : TypeId} (hsz : n * sz <= C.size) (h1 : ones C) (r : ∀ i j, i < n -> j < sz -> ∃ v, C[i * sz + j]? = some v /\ one v /\ R w.heap D zar (get i j) v) :
   zdg (w.alloc (.cells C t)).heap D μ (.row t sz n get) (some (w.heap.size, C.size, n)) := by
 refine ⟨rfl, C, t, (0, 0), heap_alloc_new _ _, rfl, ⟨zer _, rfl, h1, fun _ => zer _⟩, hsz, fun i j hi hj => ?_⟩
 obtain ⟨v, v1, v2, v3⟩ := r i j hi hj
 exact ⟨v, v1, v2, v3.mono (fun b hb => Below.heap_alloc _ _ _ (h.dlt b hb)) (fun _ h => h) (fun _ _ h => h)⟩
theorem zwj (hT : zbd P T) {t : TypeId} (e : o.op = .alloc t) : zbw P base M W nt f g c o a w (ydv T o.dst t (zcd g o.op o.dst)) := by
 unfold ydv
 split
 · rename_i d hc
   obtain ⟨hn, hdst⟩ := zbg hc
   have hnew : g d = none := by
     simp only [zcd, e, zbz, hdst] at hn
     cases hg : g d with
     | none => rfl
     | some _ => rw [hg] at hn; cases hn
   split
   · rename_i i hi
     have ok := hT t i hi
     obtain ⟨z, z1, z2, z3, z4⟩ := ok.zeroV
     have run : (execOp a.eval o).run P w = .ok (.value (.pointer (some ⟨w.heap.size, 0, none⟩))) (w.alloc (.cells z.cells t)) := by
       unfold execOp
       rw [e]
       simp [Instr.alloc, z1, newVar, newRow]
     have okk := ok.k
     split
     · rename_i n e' esz hk
       rw [hk] at okk
       split
       · rename_i ei hei
         split
         · rename_i hz hsz hfr
           have hz := zmc hz
           have hsz := za1 hsz
           rw [zai] at hsz
           have r := z4 w.heap D μ
           have hl : i.zero.length = n * esz := by rw [hz, zda, hsz]
           refine zha h hd hdst hnew z.cells t _ n (by simp) (zfv h (by rw [<- r.1, hl]; omega) z2 (fun i' j hi' hj => ?_)) run (fun D' μ' hm => .ref _ _ _ _ _ hm)
           have hx : i.zero[i' * esz + j]? = some (zbl .dead ei.zero j) := by
             rw [hz, <- hsz, zfe _ _ _ _ hi' (by omega)]
             exact zak _ _ _ (by omega)
           have hlt : i' * esz + j < z.cells.size := by rw [<- r.1]; exact (List.getElem?_eq_some_iff.1 hx).1
           exact ⟨_, getD_some hlt, z2 _ _ (getD_some hlt), zcv (r.2 _ _ _ hx (getD_some hlt)) (zc4 hfr _ _ (zak _ _ _ (by omega)))⟩
         · trivial
       · trivial
     · exact zha h hd hdst hnew z.cells t (.box t i.zero) 0 (by simp) (yiz h z2 (z4 _ _ _)) run (fun D' μ' hm => .ref _ _ _ _ _ hm)
   · trivial
 · trivial
theorem zrq (hT : zbd P T) {t : TypeId} (e : o.op = .alloc t) {ob : Nat -> Option Ob} (hob : ∀ id z, ob id = some z -> g id = some z) (p : Nat) : zbw P base M W nt f g c o a w (zt2 T std p t ob) := by
 unfold zt2
 split
 · rename_i i hi
   split
   · split
     · rename_i ty sz n len get hg
       have hg := hob _ _ hg
       split
       · rename_i h1 h2 h3 h4
         obtain rfl := za1 h1
         obtain rfl := za1 h2
         have h3 := za1 h3
         rw [zai] at h3
         obtain ⟨z, z1, z2, z3, z4⟩ := (hT ty i hi).zeroV
         have run : (execOp a.eval o).run P w = .ok (.value (.pointer (some ⟨w.heap.size, 0, none⟩))) (w.alloc (.cells z.cells ty)) := by
           unfold execOp
           rw [e]
           simp [Instr.alloc, z1, newVar, newRow]
         have r := z4 w.heap D μ
         intro K Q hK
         unfold Oper.wp
         rw [run]
         have hrow : zdg (w.alloc (.cells z.cells ty)).heap D μ (.row ty i.sz 1 (fun _ j => zbl .dead i.zero j)) (some (w.heap.size, z.cells.size, 1)) :=
           zfv h (by rw [<- r.1]; omega) z2 (fun i' j hi' hj => by
             have hx : i.zero[i' * i.sz + j]? = some (zbl .dead i.zero j) := by
               rw [show i' * i.sz + j = j by rw [show i' = 0 by omega]; omega]
               exact zak _ _ _ (by omega)
             have hlt : i' * i.sz + j < z.cells.size := by rw [<- r.1]; exact (List.getElem?_eq_some_iff.1 hx).1
             exact ⟨_, getD_some hlt, z2 _ _ (getD_some hlt), zcv (r.2 _ _ _ hx (getD_some hlt)) (zc4 h4 _ _ (zak _ _ _ (by omega)))⟩)
         have hmem := h.tbs.mem hg (k := n)
         rw [if_neg (Nat.lt_irrefl n)] at hmem
         obtain ⟨q1, q2, q3⟩ := zjf (n' := n + 1) (len' := fun k => yf2 (za5 k n) 1 (len k)) (get' := fun k i' j => zci std (L2 std za5 k n) (zbl .dead i.zero j) (get k i' j)) h.tbs hg (k := n)
           (fun j hj => by omega) (fun j hj => by show cond (za5 j n) 1 (len j) = len j; rw [zac hj]; rfl) (fun j hj i' q hp D μ v r => zz6 _ r _ _ hj)
         rw [if_pos (Nat.lt_succ_self n)] at q1
         have h1 := h.newG (zky (h.tbs p _ hg).1 n) hmem (.row ty i.sz (yf2 (za5 n n) 1 (len n)) (fun i' j => zci std (L2 std za5 n n) (zbl .dead i.zero j) (get n i' j))) (.cells z.cells ty) z.cells.size 1 (by simp) q1 q2 q3 (by
           rw [za3]
           obtain ⟨_, cc, t', fr, k1, k2, k3, k4, k5⟩ := hrow
           refine ⟨rfl, cc, t', fr, k1, k2, k3, k4, fun i' j hi' hj => ?_⟩
           obtain ⟨v, v1, v2, v3⟩ := k5 i' j hi' hj
           exact ⟨v, v1, v2, by rw [show L2 std za5 n n = true from za3 n]; exact zbq v3 _⟩)
         have hr := R.aer (h := (w.alloc (.cells z.cells ty)).heap) (D := D) (μ := fun id => if id = mid p n then some (some (w.heap.size, z.cells.size, 1)) else μ id) p n i.sz 0 0 w.heap.size z.cells.size 1 (by rw [if_pos rfl]) Nat.one_pos
         rw [Nat.zero_mul, Nat.zero_add] at hr
         exact hK _ _ ⟨_, _, h1.put hd hr⟩
       · trivial
     · trivial
   · trivial
 · trivial
theorem yfc (hT : zbd P T) {t : TypeId} {x : Operand} (e : o.op = .box t x) {vals : List AV} (hv : Ops w.heap D μ a [x] vals) : zbw P base M W nt f g c o a w (yt7 T std o.dst t (zcd g o.op o.dst) vals) := by
 match vals, hv with
 | [v], ⟨hv, _⟩ =>
   unfold yt7
   simp only
   split
   · rename_i d hc
     obtain ⟨hn, hdst⟩ := zbg hc
     have hnew : g d = none := by
       simp only [zcd, e, zbz, hdst] at hn
       cases hg : g d with
       | none => rfl
       | some _ => rw [hg] at hn; cases hn
     split
     · rename_i i hi
       split
       · rename_i hsz hs
         have hsz := za1 hsz
         rw [zai] at hsz
         have rc := zg9 hv hs
         have hlen := rc.len
         have run : (execOp a.eval o).run P w = .ok (.value (.pointer (some ⟨w.heap.size, 0, none⟩))) (w.alloc (.cells (a.eval x).cells t)) := by
           unfold execOp
           rw [e]
           simp [Instr.box, newVar, newRow]
         have h1 : ones (a.eval x).cells := fun j u hu => by
           have hlt : j < v.cells.length := by rw [hlen]; have := (Array.getElem?_eq_some_iff.1 hu).1; simpa using this
           exact (rc.get j v.cells[j] u (by simp [hlt]) (by simpa using hu)).2
         have hr : RL w.heap D μ v.cells (a.eval x).cells := ⟨by rw [hlen]; simp, fun j y u hy hu => (rc.get j y u hy (by simpa using hu)).1⟩
         split
         · rename_i n e' esz hk
           split
           · rename_i hfr hne
             have hne := za1 hne
             refine zha h hd hdst hnew _ t _ n (by simp) (zfv h (by rw [<- hr.1]; omega) h1 (fun i' j hi' hj => ?_)) run (fun D' μ' hm => .ref _ _ _ _ _ hm)
             have hx := zeq (cs := v.cells) (sz := esz) (n := n) (by omega) hi' hj
             have hlt : i' * esz + j < (a.eval x).cells.size := by rw [<- hr.1]; exact (List.getElem?_eq_some_iff.1 hx).1
             exact ⟨_, getD_some hlt, h1 _ _ (getD_some hlt), zcv (hr.2 _ _ _ hx (getD_some hlt)) (zc4 hfr _ _ hx)⟩
           · trivial
         · exact zha h hd hdst hnew _ t (.box t v.cells) 0 (by simp) (yiz h h1 hr) run (fun D' μ' hm => .ref _ _ _ _ _ hm)
       · trivial
     · trivial
   · trivial
theorem ya0 (hT : zbd P T) {t : TypeId} {x : Operand} (e : o.op = .box t x) {vals : List AV} (hv : Ops w.heap D μ a [x] vals) {ob : Nat -> Option Ob} (hob : ∀ id z, ob id = some z -> g id = some z) (p : Nat) : zbw P base M W nt f g c o a w (ymu T std p t ob vals) := by
 match vals, hv with
 | [v], ⟨hv, _⟩ =>
 unfold ymu
 simp only
 split
 · rename_i i hi
   split
   · split
     · rename_i ty sz n len get hg
       have hg := hob _ _ hg
       split
       · rename_i h1 h2 h3 h4
         obtain rfl := za1 h1
         obtain rfl := za1 h2
         have h3 := za1 h3
         rw [zai] at h3
         rw [Bool.and_eq_true] at h4
         obtain ⟨h4, hs⟩ := h4
         have rc := zg9 hv hs
         have hlen := rc.len
         have run : (execOp a.eval o).run P w = .ok (.value (.pointer (some ⟨w.heap.size, 0, none⟩))) (w.alloc (.cells (a.eval x).cells ty)) := by
           unfold execOp
           rw [e]
           simp [Instr.box, newVar, newRow]
         have z2 : ones (a.eval x).cells := fun j u hu => by
           have hlt : j < v.cells.length := by rw [hlen]; have := (Array.getElem?_eq_some_iff.1 hu).1; simpa using this
           exact (rc.get j v.cells[j] u (by simp [hlt]) (by simpa using hu)).2
         have r : RL w.heap D μ v.cells (a.eval x).cells := ⟨by rw [hlen]; simp, fun j y u hy hu => (rc.get j y u hy (by simpa using hu)).1⟩
         generalize (a.eval x).cells = Z at run z2 r
         intro K Q hK
         unfold Oper.wp
         rw [run]
         have hrow : zdg (w.alloc (.cells Z ty)).heap D μ (.row ty i.sz 1 (fun _ j => zbl .dead v.cells j)) (some (w.heap.size, Z.size, 1)) :=
           zfv h (by rw [<- r.1]; omega) z2 (fun i' j hi' hj => by
             have hx : v.cells[i' * i.sz + j]? = some (zbl .dead v.cells j) := by
               rw [show i' * i.sz + j = j by rw [show i' = 0 by omega]; omega]
               exact zak _ _ _ (by omega)
             have hlt : i' * i.sz + j < Z.size := by rw [<- r.1]; exact (List.getElem?_eq_some_iff.1 hx).1
             exact ⟨_, getD_some hlt, z2 _ _ (getD_some hlt), zcv (r.2 _ _ _ hx (getD_some hlt)) (zc4 h4 _ _ (zak _ _ _ (by omega)))⟩)
         have hmem := h.tbs.mem hg (k := n)
         rw [if_neg (Nat.lt_irrefl n)] at hmem
         obtain ⟨q1, q2, q3⟩ := zjf (n' := n + 1) (len' := fun k => yf2 (za5 k n) 1 (len k)) (get' := fun k i' j => zci std (L2 std za5 k n) (zbl .dead v.cells j) (get k i' j)) h.tbs hg (k := n)
           (fun j hj => by omega) (fun j hj => by show cond (za5 j n) 1 (len j) = len j; rw [zac hj]; rfl) (fun j hj i' q hp D μ v r => zz6 _ r _ _ hj)
         rw [if_pos (Nat.lt_succ_self n)] at q1
         have h1 := h.newG (zky (h.tbs p _ hg).1 n) hmem (.row ty i.sz (yf2 (za5 n n) 1 (len n)) (fun i' j => zci std (L2 std za5 n n) (zbl .dead v.cells j) (get n i' j))) (.cells Z ty) Z.size 1 (by simp) q1 q2 q3 (by
           rw [za3]
           obtain ⟨_, cc, t', fr, k1, k2, k3, k4, k5⟩ := hrow
           refine ⟨rfl, cc, t', fr, k1, k2, k3, k4, fun i' j hi' hj => ?_⟩
           obtain ⟨v, v1, v2, v3⟩ := k5 i' j hi' hj
           exact ⟨v, v1, v2, by rw [show L2 std za5 n n = true from za3 n]; exact zbq v3 _⟩)
         have hr := R.aer (h := (w.alloc (.cells Z ty)).heap) (D := D) (μ := fun id => if id = mid p n then some (some (w.heap.size, Z.size, 1)) else μ id) p n i.sz 0 0 w.heap.size Z.size 1 (by rw [if_pos rfl]) Nat.one_pos
         rw [Nat.zero_mul, Nat.zero_add] at hr
         exact hK _ _ ⟨_, _, h1.put hd hr⟩
       · trivial
     · trivial
   · trivial
 · trivial
end
end Sy
end Go.Proofs.Ytogomcfgfnlclaa
namespace Go.Proofs.Ytogomcfgfnlclaa
namespace Sy
open Go Go.RowKit
set_option linter.unusedSimpArgs false
set_option linter.unusedVariables false
theorem zbn : ∀ {l : List Value} {C : Array Value} {n : Nat}, ones C -> (∀ v ∈ l, one v) -> ones (zb0 C n l)
 | [], C, n, h, _ => h
 | v :: l, C, n, h, h1 => zbn (l := l) (C := C.setIfInBounds n v) (n := n + 1) (ones.set h (h1 v (by simp)) n) fun x hx => h1 x (by simp [hx])
theorem RLL.ones {h : Array Obj} {D : Nat -> Prop} {μ : Mu} {xs : List AV} {vs : List Value} (r : RLL h D μ xs vs) : ∀ v ∈ vs, one v := by
 intro v hv
 obtain ⟨i, hi⟩ := List.getElem?_of_mem hv
 have hlt := (List.getElem?_eq_some_iff.1 hi).1
 have hl := r.len
 exact (r.get i _ v (List.getElem?_eq_getElem (by omega)) hi).2
theorem yaz {z : Array Value} {n : Nat} (h : ones z) (hz : n = 0 \/ 0 < z.size) : ones (madeCells z n) := by
 intro i v hv
 have : v ∈ madeCells z n := Array.mem_of_getElem? hv
 simp only [madeCells, Array.mem_map, Array.mem_range] at this
 obtain ⟨q, hq, rfl⟩ := this
 have hlt : q % z.size < z.size := Nat.mod_lt _ (by omega)
 rw [getElem!_pos z _ hlt]
 exact h (q % z.size) _ (by simp [hlt])
theorem zcw (P : Program) (b o : Nat) (t : TypeId) (fr : Nat × Nat) : ∀ (vs : List Value) (i : Nat) (C : Array Value) (w : World), w.heap[b]? = some (.cells C t fr) -> zu3 C.size fr -> o + i + vs.length <= C.size -> (∀ v ∈ vs, one v) ->
   (storeCells ⟨b, o, none⟩ vs i).run P w = .ok () (w.setRow b (zb0 C (o + i) vs))
 | [], i, C, w, hg, _, _, _ => by
   simp only [storeCells, zb0]
   rw [setRow_self w b C t fr hg]
   rfl
 | v :: rest, i, C, w, hg, hf, hl, h1 => by
   have hi : o + i < C.size := by simp at hl; omega
   have hcell : w.cell? ⟨b, o + i, none⟩ = some C[o + i] := by simp [World.cell?, hg, hi]
   have hfro : w.frozen? ⟨b, o + i, none⟩ = false := by
     have := hf (o + i) hi
     simp only [World.frozen?, hg]
     simp only [Bool.and_eq_false_iff, decide_eq_false_iff_not]
     omega
   have hst : (store ((⟨b, o, none⟩ : Addr).add i) v).run P w = .ok () (w.setRow b (C.setIfInBounds (o + i) v)) := by
     rw [zbb, run_store P w _ v _ (h1 v (by simp)), hcell]
     simp [hfro, setCell_eq_setRow w b (o + i) C t fr v hg]
   have ih := zcw P b o t fr rest (i + 1) (C.setIfInBounds (o + i) v) (w.setRow b (C.setIfInBounds (o + i) v)) (setRow_heap w b C _ t _ hg) (by simpa using hf) (by simp at hl |-; omega) (fun x hx => h1 x (by simp [hx]))
   simp only [storeCells, Sem.run_bind, hst, Result.andThen_ok, ih, setRow_setRow]
   rfl
theorem zfu (w : World) (b k : Nat) (C : Array Value) (hk : k ≠ b) : (w.setRow b C).heap[k]? = w.heap[k]? := by
 simp only [World.setRow, Array.getElem?_modify]
 rw [if_neg (fun e => hk e.symm)]
theorem zd8 (w : World) (b : Nat) (C : Array Value) : (w.setRow b C).heap.size = w.heap.size := by simp [World.setRow]
theorem zet {α : Type} : ∀ (ys xs : List α) (n : Nat), (zfz xs n ys).length = xs.length
 | [], xs, n => rfl
 | y :: ys, xs, n => by rw [zfz, zet ys, zkr, List.length_set]
theorem zaf : ∀ (l : List Value) (n : Nat) (C : Array Value) (k : Nat), k < C.size -> (zb0 C n l)[k]? = if n <= k /\ k < n + l.length then l[k - n]? else C[k]?
 | [], n, C, k, hk => by
   rw [if_neg (by simp only [List.length_nil]; omega), zb0]
 | x :: xs, n, C, k, hk => by
   rw [zb0, zaf xs (n + 1) _ k (by simpa using hk)]
   by_cases h1 : n = k
   · subst h1
     rw [if_neg (by omega), if_pos ⟨by omega, by simp⟩, Array.getElem?_setIfInBounds, if_pos rfl, if_pos hk]
     simp
   · by_cases h2 : n + 1 <= k /\ k < n + 1 + xs.length
     · rw [if_pos h2, if_pos ⟨by omega, by simp; omega⟩]
       obtain ⟨q, hq⟩ : ∃ q, k - n = q + 1 := ⟨k - n - 1, by omega⟩
       rw [hq, show k - (n + 1) = q by omega]
       rfl
     · rw [if_neg h2, if_neg (by simp; omega), Array.getElem?_setIfInBounds, if_neg h1]
theorem ziq {α : Type} : ∀ (l C : List α) (n k : Nat), k < C.length -> (zfz C n l)[k]? = if n <= k /\ k < n + l.length then l[k - n]? else C[k]?
 | [], C, n, k, hk => by
   rw [if_neg (by simp only [List.length_nil]; omega), zfz]
 | x :: xs, C, n, k, hk => by
   rw [zfz, zkr, ziq xs _ (n + 1) k (by simpa using hk)]
   by_cases h1 : n = k
   · subst h1
     rw [if_neg (by omega), if_pos ⟨by omega, by simp⟩, List.getElem?_set, if_pos rfl, if_pos hk]
     simp
   · by_cases h2 : n + 1 <= k /\ k < n + 1 + xs.length
     · rw [if_pos h2, if_pos ⟨by omega, by simp; omega⟩]
       obtain ⟨q, hq⟩ : ∃ q, k - n = q + 1 := ⟨k - n - 1, by omega⟩
       rw [hq, show k - (n + 1) = q by omega]
       rfl
     · rw [if_neg h2, if_neg (by simp; omega), List.getElem?_set, if_neg h1]
theorem zlb {pl : Nat -> Option (Nat × Nat)} : ∀ (ps : List (Nat × Operand)) (vals : List AV) (cells : List AV) (cs : List AV), zoo pl cells ps vals = some cs -> cs.length = cells.length
 | [], [], cells, cs, e => by cases e; rfl
 | [], _ :: _, _, _, e => by cases e
 | (i, p) :: ps, [], _, _, e => by cases e
 | (i, p) :: ps, v :: vs, cells, cs, e => by
   simp only [zoo] at e
   split at e
   · split at e
     · split at e
       · rw [zlb ps vs _ cs e, zet]
       · cases e
     · cases e
   · cases e
theorem zpr {k e off n k' e' j : Nat} {cs : List AV} {get : Nat -> Nat -> Nat -> AV} : zry std k e off n cs get k' e' j = if off <= j /\ j < off + n then zci std (L2 std za5 k' k && L2 std za5 e' e) (zbl .dead cs (j - off)) (get k' e' j) else get k' e' j := by
 unfold zry
 split
 · rename_i h1
   have h1 := zb2 h1
   split
   · rename_i h2
     rw [if_pos ⟨h1, zan h2⟩]
     rfl
   · rename_i h2
     rw [if_neg]
     rintro ⟨_, h3⟩
     rw [show zb3 j (off + n) = true by rw [zc7]; exact h3] at h2
     cases h2
 · rename_i h1
   rw [if_neg]
   rintro ⟨h3, _⟩
   rw [show zbh off j = true by rw [zcr]; exact h3] at h1
   cases h1
theorem zee {e off n e' j : Nat} {cs : List AV} {get : Nat -> Nat -> AV} : over std e off n cs get e' j = if off <= j /\ j < off + n then zci std (za5 e' e) (zbl .dead cs (j - off)) (get e' j) else get e' j := by
 unfold over
 split
 · rename_i h1
   have h1 := zb2 h1
   split
   · rename_i h2
     rw [if_pos ⟨h1, zan h2⟩]
     rfl
   · rename_i h2
     rw [if_neg]
     rintro ⟨_, h3⟩
     rw [show zb3 j (off + n) = true by rw [zc7]; exact h3] at h2
     cases h2
 · rename_i h1
   rw [if_neg]
   rintro ⟨h3, _⟩
   rw [show zbh off j = true by rw [zcr]; exact h3] at h1
   cases h1
section
variable {P : Program} {T : TT} {base : Nat} {M : Two} {W : World} {nt : Nat} {f : Nat -> Option AV} {g : Nat -> Option Ob} {c : Nat -> Bool} {a : Act} {w : World} {D : Nat -> Prop} {μ : Mu} {o : Oper}
theorem Sim.turnG (h : Sim base M W nt f g c a w D μ) {id b z m : Nat} {ob ob' : Ob} {w' : World} (hμ : μ id = some (some (b, z, m))) (hg : gx g id = some ob) (hne : ob ≠ .gone)
   (hc : c id = false) (hos : w'.os = w.os) (htape : w'.tape = w.tape) (hout : w'.output = w.output) (hsz : w'.heap.size = w.heap.size) (hother : ∀ k, k ≠ b -> w'.heap[k]? = w.heap[k]?)
   (hok : (∀ k, D k -> w'.heap[k]? = w.heap[k]?) -> zdg w'.heap D μ ob' (some (b, z, m))) {g' : Nat -> Option Ob} (hgd : gx g' id = some ob') (hgs : ∀ i, i ≠ id -> zm2 g g' i) (ht : Plain g') :
   Sim base M W nt f g' c a w' D μ := by
 have hnD : ¬ D b := (h.kdx id b (z, m) ob hμ hg hne).2 hc
 have hDk : ∀ k, D k -> w'.heap[k]? = w.heap[k]? := fun k hk => hother k (by rintro rfl; exact hnD hk)
 exact {
   os := hos.trans h.os, tape := htape.trans h.tape, output := hout.trans h.output
   size := by rw [hsz]; exact h.size
   bs := by rw [hsz]; exact h.bs
   old := fun k h1 h2 => by
     rw [hother k (by
       rintro rfl
       rcases (h.own id k _ hμ).2 with h3 | h3
       · omega
       · exact h2 h3)]
     exact h.old k h1 h2
   defers := h.defers, tmps := h.tmps
   slots := fun s v hv => (h.slots s v hv).mono hDk (fun _ h => h) (fun _ _ h => h)
   dlt := fun k hk => by rw [hsz]; exact h.dlt k hk
   low := h.low
   domx := fun i => by
     by_cases e : i = id
     · subst e; simp [hμ, hgd]
     · exact h.domS (hgs i e)
   obsx := fun i o' x h1 h2 => by
     by_cases e : i = id
     · subst e
       rw [hgd] at h1; cases h1
       rw [hμ] at h2; cases h2
       exact hok hDk
     · obtain ⟨o0, h3, _, _, h4⟩ := (hgs i e).live h1
       refine h4 _ _ _ _ ((h.obsx i o0 x h3 h2).mono hDk (fun _ h => h) (fun _ _ h => h) (fun b' z' hx hne2 => hother b' ?_))
       rintro rfl
       subst hx
       exact e (h.injx i id b' z' (z, m) o0 ob h2 hμ h3 hg hne2 hne)
   injx := fun i i' b1 z1 z2 o1 o2 h1 h2 h3 h4 h5 h6 => by
     have k3 : ∃ o, gx g i = some o /\ o ≠ .gone := by
       by_cases e : i = id
       · subst e; exact ⟨ob, hg, hne⟩
       · obtain ⟨o0, q1, q2, _⟩ := (hgs i e).live h3
         exact ⟨o0, q1, q2 h5⟩
     have k4 : ∃ o, gx g i' = some o /\ o ≠ .gone := by
       by_cases e : i' = id
       · subst e; exact ⟨ob, hg, hne⟩
       · obtain ⟨o0, q1, q2, _⟩ := (hgs i' e).live h4
         exact ⟨o0, q1, q2 h6⟩
     obtain ⟨p, p1, p2⟩ := k3
     obtain ⟨q, q1, q2⟩ := k4
     exact h.injx i i' b1 z1 z2 p q h1 h2 p1 q1 p2 q2
   own := fun i b1 z1 h1 => by rw [hsz]; exact h.own i b1 z1 h1
   kdx := fun i b1 z1 o1 h1 h2 h3 => by
     by_cases e : i = id
     · subst e; exact h.kdx i b1 z1 ob h1 hg hne
     · obtain ⟨o0, q1, q2, _⟩ := (hgs i e).live h2
       exact h.kdx i b1 z1 o0 h1 q1 (q2 h3)
   ntb := h.ntb
   pin := h.pin
   gl := h.gl
   tbs := ht
   icm := h.icm
   mems := h.mems
   icyx := fun i hi => by
     by_cases e : i = id
     · rw [e, hgd]; simp
     · exact (hgs i e).some (h.icyx i hi) }
theorem yp5 (h : Sim base M W nt f g c a w D μ) {id : Nat} {y : Nat × Nat × Nat} {ob : Ob} (hμ : μ id = some (some y)) (hg : g id = some ob) : zau ob = false := by
 cases e : zau ob with
 | false => rfl
 | true => exact (yp6 e (h.obs id ob _ hg hμ)).elim
theorem Sim.turn (h : Sim base M W nt f g c a w D μ) {id b z m : Nat} {ob ob' : Ob} {w' : World} (hμ : μ id = some (some (b, z, m))) (hg : g id = some ob) (hne : ob ≠ .gone) (_ : True)
   (hc : c id = false) (hos : w'.os = w.os) (htape : w'.tape = w.tape) (hout : w'.output = w.output) (hsz : w'.heap.size = w.heap.size) (hother : ∀ k, k ≠ b -> w'.heap[k]? = w.heap[k]?)
   (hok : (∀ k, D k -> w'.heap[k]? = w.heap[k]?) -> zdg w'.heap D μ ob' (some (b, z, m))) (ht : zau ob' = false := by rfl) :
   Sim base M W nt f (zb7 g [(id, ob')]) c a w' D μ := by
 have hlt := (h.tbs id _ hg).1
 have hgp := zi2 (g := g) (o := ob') hlt ht (fun x hx => by rw [hg] at hx; cases hx; exact yp5 h hμ hg)
 refine h.turnG hμ (h.tbs.up hg) hne hc hos htape hout hsz hother hok (by rw [hgp, if_pos rfl]) (fun i hi => .inl (by rw [hgp, if_neg hi])) (zie h.tbs hlt (fun h => by rw [ht] at h; cases h))
theorem Sim.write (h : Sim base M W nt f g c a w D μ) {id b z m : Nat} {ob ob' : Ob} {C C' : Array Value} {t : TypeId} {fr : Nat × Nat} (hμ : μ id = some (some (b, z, m))) (hg : g id = some ob) (hne : ob ≠ .gone) (hne' : ob' ≠ .gone)
   (hc : c id = false) (hb : w.heap[b]? = some (.cells C t fr)) (hok : (∀ k, D k -> (w.setRow b C').heap[k]? = w.heap[k]?) -> zdg (w.setRow b C').heap D μ ob' (some (b, z, m))) (ht : zau ob' = false := by rfl) :
   Sim base M W nt f (zb7 g [(id, ob')]) c a (w.setRow b C') D μ :=
 h.turn hμ hg hne trivial hc rfl rfl rfl (zd8 w b C') (fun k hk => zfu w b k C' hk) hok ht
theorem Sim.writeT (h : Sim base M W nt f g c a w D μ) {p k b z m : Nat} {ty sz n : Nat} {len : Nat -> Nat} {get get' : Nat -> Nat -> Nat -> AV} {C' : Array Value} (hμ : μ (mid p k) = some (some (b, z, m))) (hg : g p = some (.tab ty sz n len get))
   (hget : ∀ j, j ≠ k -> ∀ i q h D μ v, R h D μ (get j i q) v -> R h D μ (get' j i q) v) (hok : (∀ k, D k -> (w.setRow b C').heap[k]? = w.heap[k]?) -> zdg (w.setRow b C').heap D μ (.row ty sz (len k) (get' k)) (some (b, z, m))) :
   Sim base M W nt f (zb7 g [(p, .tab ty sz n len get')]) c a (w.setRow b C') D μ := by
 obtain ⟨hk, hrow⟩ := zk2 h hg hμ
 have h1 := h.tbs.mem hg (k := k)
 rw [if_pos hk] at h1
 obtain ⟨q1, q2, q3⟩ := zjf (n' := n) (len' := len) (get' := get') h.tbs hg (k := k) (fun _ _ => Iff.rfl) (fun _ _ => rfl) hget
 rw [if_pos hk] at q1
 have hcm : c (mid p k) = false := h.icm _ (ze6 (h.tbs p _ hg).1 k).1
 exact h.turnG (w' := w.setRow b C') hμ h1 (by simp) hcm rfl rfl rfl (zd8 w b C') (fun k hk => zfu w b k C' hk) hok q1 q2 q3
variable (h : Sim base M W nt f g c a w D μ) (hd : ∀ d, o.dst = some d -> d < nt)
include h hd
theorem zzg (hT : zbd P T) {t n : Nat} {ps : Array (Nat × Operand)} (e : o.op = .buildSlice t n ps) {vals : List AV} (hv : Ops w.heap D μ a (ps.toList.map Prod.snd) vals) {ob : Nat -> Option Ob} (hob : ∀ id z, ob id = some z -> g id = some z) :
   zbw P base M W nt f g c o a w (ymf T std o.dst t n ps.toList vals ob (zcd g o.op o.dst)) := by
 unfold ymf
 split
 · rename_i d hc
   obtain ⟨hn, hdst⟩ := zbg hc
   have hnew : g d = none := by
     simp only [zcd, e, zbz, hdst] at hn
     cases hg : g d with
     | none => rfl
     | some _ => rw [hg] at hn; cases hn
   split
   · rename_i i hi
     split
     · rename_i e' esz eb hk
       have ok := (hT t i hi).k
       rw [hk] at ok
       obtain ⟨ok1, ok2⟩ := ok
       obtain ⟨ei', hei', hes⟩ := Option.map_eq_some_iff.1 ok2
       simp only [Prod.mk.injEq] at hes
       split
       · rename_i ei hei
         have oke := hT e' ei hei
         obtain ⟨ii, z, i1, i2, i3, i4, i5, i6⟩ := oke.info
         rw [hei'] at i1
         cases i1
         split
         · rename_i vals' hvals
           cases hle : zbh (n * esz) 16777216 with
           | false => rw [hle] at hvals; cases hvals
           | true =>
             rw [hle] at hvals
             have hle := zb2 hle
             split
             · rename_i cs hcs
               cases hs : zf8 vals' with
               | false => rw [hs] at hcs; cases hcs
               | true =>
                 rw [hs] at hcs
                 obtain ⟨l1, l2, l3⟩ := zjp h hob hvals (ids := zdz vals) (fun _ h => h)
                 have h' := h.freeze (zdz vals) l2
                 have hp : ∀ (qs : List (Nat × Operand)) (xs xs' : List AV), Ops w.heap D μ a (qs.map Prod.snd) xs -> xs'.length = xs.length -> (∀ (i : Nat) x x' v, xs[i]? = some x -> xs'[i]? = some x' -> R w.heap D μ x v -> R w.heap (DF D μ (zdz vals)) zar x' v) ->
                     zxy w.heap (DF D μ (zdz vals)) zar a qs xs' := by
                   intro qs
                   induction qs with
                   | nil => intro xs xs' hv hl hr; cases xs with
                     | nil => cases xs' with
                       | nil => exact trivial
                       | cons _ _ => simp at hl
                     | cons _ _ => exact hv.elim
                   | cons q qs ih => intro xs xs' hv hl hr; cases xs with
                     | nil => exact hv.elim
                     | cons x xs => cases xs' with
                       | nil => simp at hl
                       | cons x' xs' => exact ⟨hr 0 x x' _ rfl rfl hv.1, ih xs xs' hv.2 (by simpa using hl) (fun i y y' v hy hy' r => hr (i + 1) y y' v (by simpa using hy) (by simpa using hy') r)⟩
                 have hsz : z.cells.size = esz := by rw [i5, <- i2, hes.1]
                 have hzl : ei.zero.length = esz := by rw [(i6 w.heap D μ).1, hsz]
                 obtain ⟨C0, hC0⟩ : ∃ C0, C0 = (Array.range (n * esz)).map (fun q => z.cells[q % z.cells.size]!) := ⟨_, rfl⟩
                 have hC0s : C0.size = n * esz := by rw [hC0]; simp
                 have hget : ∀ q, q < n * esz -> C0[q]? = some (z.cells.getD (q % esz) undef) /\ q % esz < z.cells.size /\ (zd3 ei.zero n)[q]? = ei.zero[q % esz]? := by
                   intro q hq
                   have h0 : 0 < esz := by
                     rcases Nat.eq_zero_or_pos esz with h0 | h0
                     · rw [h0] at hq; omega
                     · exact h0
                   have h1 := Nat.mod_lt q h0
                   refine ⟨?_, by omega, ?_⟩
                   · rw [hC0]
                     have h2 : q % esz < z.cells.size := by omega
                     simp [hq, hsz, h2]
                     rw [getElem!_pos z.cells _ h2]
                     simp [h2]
                   · have := zfe ei.zero n (q / esz) (q % esz) (Nat.div_lt_of_lt_mul (by rw [Nat.mul_comm]; exact hq)) (by omega)
                     rw [hzl] at this
                     rw [<- this]
                     congr 1
                     rw [Nat.mul_comm]; exact (Nat.div_add_mod q esz).symm
                 have r0 : RL w.heap (DF D μ (zdz vals)) zar (zd3 ei.zero n) C0 := by
                   refine ⟨by rw [zda, hzl, hC0s], fun q x v hx hv => ?_⟩
                   have hq : q < n * esz := by rw [<- hC0s]; exact (Array.getElem?_eq_some_iff.1 hv).1
                   obtain ⟨g1, g2, g3⟩ := hget q hq
                   rw [g1] at hv
                   cases hv
                   rw [g3] at hx
                   exact (i6 _ _ _).2 _ x _ hx (getD_some g2)
                 have o0 : ones C0 := by
                   intro q v hv
                   have hq : q < n * esz := by rw [<- hC0s]; exact (Array.getElem?_eq_some_iff.1 hv).1
                   obtain ⟨g1, g2, _⟩ := hget q hq
                   rw [g1] at hv
                   cases hv
                   exact i4 _ _ (getD_some g2)
                 obtain ⟨C', f1, f2, f3⟩ := zi6 (h := w.heap) (D := DF D μ (zdz vals)) (μ := zar) ps.toList vals' _ C0 cs hcs hs (hp _ _ _ hv l1 l3) r0 o0
                 have hCs : cs.length = n * esz := by
                   rw [zlb ps.toList vals' _ cs hcs, zda, hzl]
                 have run : (execOp a.eval o).run P w = .ok (.value (.slice (some ⟨w.heap.size, 0, none⟩) n n)) (w.alloc (.cells C' e')) := by
                   unfold execOp
                   rw [e]
                   have hso : ∀ w', (sizeOf e').run P w' = .ok esz w' := fun w' => by simp [sizeOf, typeInfo, program, Sem.run, hei', hes.1]
                   have hzv : ∀ w', (zeroValue e').run P w' = .ok z w' := fun w' => by simp [zeroValue, typeInfo, program, Sem.run, hei', i3]
                   have hf := f1
                   have hlim : ¬ (n * esz > 2 ^ 24) := by omega
                   by_cases h0 : n * esz = 0
                   · have hC00 : C0 = #[] := by apply Array.eq_empty_of_size_eq_zero; omega
                     have h00 : Array.map (fun _ => (default : Value)) (Array.range 0) = C0 := by rw [hC00]; simp
                     simp [Instr.buildSlice, run_underlying ok1, hso, h0, h00, hf, newRow]
                   · rw [hC0] at hf
                     simp only [Instr.buildSlice, Sem.run_bind, run_underlying ok1, Result.andThen_ok, hso, hlim, if_false, h0, hzv]
                     simp [hf, newRow, hzv]
                 have key := zha h' hd hdst hnew C' e' (.row e' esz n (zii std cs esz)) n (by simp) (zfv h' (by rw [<- f2.1, hCs]; exact Nat.le_refl _) f3 (fun i' j hi' hj => by
                     have hx := zeq (cs := cs) (sz := esz) (n := n) (by omega) hi' hj
                     have hlt : i' * esz + j < C'.size := by rw [<- f2.1]; exact (List.getElem?_eq_some_iff.1 hx).1
                     exact ⟨_, getD_some hlt, f3 _ _ (getD_some hlt), f2.2 _ _ _ hx (getD_some hlt)⟩))
                   (v := yjt n d esz) run (fun D' μ' hm => by
                     unfold yjt
                     split
                     · exact .emz _
                     · have := R.sl (h := (w.alloc (.cells C' e')).heap) (D := D') d esz 0 n w.heap.size C'.size n n hm (Nat.le_refl _) (by rw [<- f2.1, hCs]; simp) (by omega)
                       simpa using this)
                 exact key
             · trivial
         · trivial
       · trivial
     · trivial
   · trivial
 · trivial
theorem zwg (hT : zbd P T) {s t : TypeId} {x : Operand} (e : o.op = .convert s t x) (ht : zrh T t = true) {vals : List AV} (hv : Ops w.heap D μ a [x] vals) :
   zbw P base M W nt f g c o a w (ydt T std o.dst s t (zcd g o.op o.dst) vals) := by
 match vals, hv with
 | [v], ⟨hx, _⟩ =>
   unfold ydt
   split
   · rename_i l he
     simp only [List.cons.injEq, and_true] at he
     subst he
     split
     · rename_i d hc
       obtain ⟨hn, hdst⟩ := zbg hc
       have hnew : g d = none := by
         simp only [zcd, e, zbz, hdst] at hn
         cases hg : g d with
         | none => rfl
         | some _ => rw [hg] at hn; cases hn
       split
       · rename_i hs
         have hs' : P.underlying s = some .string := by
           unfold ypn at hs
           split at hs
           · rename_i i hi
             have := (hT s i hi).k
             split at hs
             · rename_i hk; rw [hk] at this; exact this
             · cases hs
           · cases hs
         obtain ⟨el, ht1, ht2, ht3⟩ : ∃ el, P.underlying t = some (.slice el) /\ P.underlying el = some (.int .u8) /\ yhg T t = el := by
           unfold zrh at ht
           split at ht
           · rename_i i hi
             have := (hT t i hi).k
             split at ht
             · rename_i hk; rw [hk] at this; exact ⟨_, this.1, zh7 hT ht, by simp [yhg, hi, hk]⟩
             · cases ht
           · cases ht
         obtain ⟨r, hr, hl⟩ := hx.inv_str
         have hrun := run_bytes_of_string (P := P) w s t el r hs' ht1 ht2
         have run : ∀ u w', (convert s t (a.eval x)).run P w = .ok u w' -> (execOp a.eval o).run P w = .ok (.value u) w' := by
           intro u w' hu; unfold execOp; rw [e]; simp [hu]
         have run := run _ _ (hr ▸ hrun)
         have hge := grownCap_ge w r.size 0 el
         have hrl : r.size = l.length := by rw [<- hl]; exact (Array.length_toList (xs := r.data)).symm
         generalize hC : bytesRow r (grownCap w r.size 0 el) = C at run
         have hds : r.data.size = r.size := rfl
         have hCs : C.size = grownCap w r.size 0 el := by rw [<- hC]; simp only [bytesRow, Array.size_append, Array.size_map, Array.size_replicate, hds]; omega
         rw [ht3]
         intro K Q hK
         unfold Oper.wp
         rw [run]
         have hnew' := h.drew.new (fr := (C.size, C.size + 1)) (hd _ hdst) hnew (.row el 1 l.length (fun i _ => .int .u8 (zce l i))) C el l.length (by simp) (by
           refine ⟨rfl, C, el, _, heap_alloc_new _ _, rfl, ⟨?_, rfl, ?_, fun h => by omega⟩, by omega, fun i j hi hj => ?_⟩
           · intro o' ho hx; simp only at hx; omega
           · intro i v hv
             rw [<- hC] at hv
             have hv := Array.mem_of_getElem? hv
             simp only [bytesRow, Array.mem_append, Array.mem_map, Array.mem_replicate] at hv
             rcases hv with ⟨q, _, rfl⟩ | ⟨_, rfl⟩ <;> rfl
           · have hj0 : j = 0 := by omega
             subst hj0
             refine ⟨_, ?_, ?_, .int .u8 (zce l i)⟩
             · rw [<- hC]
               have : i < r.data.size := by rw [show r.data.size = r.size from rfl, hrl]; exact hi
               simp only [bytesRow]
               rw [Array.getElem?_append_left (by simpa using this)]
               simp only [Nat.mul_one, Nat.add_zero]
               rw [Array.getElem?_map, Array.getElem?_eq_getElem this]
               simp only [Option.map_some, zce, <- hl]
               simp
               rw [Array.getElem?_eq_getElem this]
               rfl
             · rfl)
         refine hK _ _ ⟨_, _, hnew'.put hd (v := .sl d 1 0 l.length) ?_⟩
         have := R.sl (h := (w.drew.alloc (.cells C el (C.size, C.size + 1))).heap) (D := D) (μ := fun id => if id = d then some (some (w.drew.heap.size, C.size, l.length)) else μ id) d 1 0 l.length w.heap.size C.size l.length (grownCap w r.size 0 el) (by simp) (by omega) (by omega) (by omega)
         simpa [hrl] using this
       · trivial
     · trivial
   · trivial
theorem zrn (hT : zbd P T) {t : Nat} {x y : Operand} (e : o.op = .makeSlice t x y) {vals : List AV} (hv : Ops w.heap D μ a [x, y] vals) :
   zbw P base M W nt f g c o a w (zt1 T std o.dst t (zcd g o.op o.dst) vals) := by
 match vals, hv with
 | [v, v'], ⟨hx, hy, _⟩ =>
   unfold zt1
   split
   · rename_i k n k' cp he
     simp only [List.cons.injEq, and_true] at he
     obtain ⟨rfl, rfl⟩ := he
     split
     · rename_i d hc
       obtain ⟨hn, hdst⟩ := zbg hc
       have hnew : g d = none := by
         simp only [zcd, e, zbz, hdst] at hn
         cases hg : g d with
         | none => rfl
         | some _ => rw [hg] at hn; cases hn
       split
       · rename_i sz ag ze e' esz eb eqf p1 p2 p3 hi
         obtain ⟨ok1, ok2⟩ := (hT t _ hi).k
         obtain ⟨ei', hei', hes⟩ := Option.map_eq_some_iff.1 ok2
         simp only [Prod.mk.injEq] at hes
         split
         · rename_i ei hei
           obtain ⟨ii, z, i1, i2, i3, i4, i5, i6⟩ := (hT e' ei hei).info
           rw [hei'] at i1
           cases i1
           split
           · rename_i hfr
             intro hb
             have hb' : ((0 <= n /\ n <= cp) /\ (eb : Int) * cp <= 140737488355328) /\ cp <= 9223372036854775807 := by simpa [L3, std, yl1] using hb
             obtain ⟨⟨⟨b1, b2⟩, b3⟩, b4⟩ := hb'
             have hr := run_make (P := P) w t e' ei' z ok1 hei' i3 k k' n cp b1 b2 (by rw [hes.2]; omega) b4
             have hsz : z.cells.size = esz := by rw [i5, <- i2, hes.1]
             have hzl : ei.zero.length = esz := by rw [(i6 w.heap D μ).1, hsz]
             have run : (execOp a.eval o).run P w = .ok (.value (.slice (some ⟨w.heap.size, 0, none⟩) n.toNat cp.toNat)) (w.alloc (.cells (madeCells z.cells (cp.toNat * ei'.size)) e')) := by
               unfold execOp
               rw [e]
               simp [hx.inv_int, hy.inv_int, hr]
             have hms : (madeCells z.cells (cp.toNat * ei'.size)).size = cp.toNat * esz := by simp [madeCells, hes.1]
             have hle : n.toNat * esz <= cp.toNat * esz := Nat.mul_le_mul_right _ (by omega)
             refine zha h hd hdst hnew _ e' _ n.toNat (by simp) (zfv h (by rw [hms]; exact hle) (yaz i4 (by rcases Nat.eq_zero_or_pos z.cells.size with h0 | h0; (left; rw [hes.1, <- hsz, h0, Nat.mul_zero]); exact .inr h0)) (fun i' j hi' hj => ?_)) run (fun D' μ' hm => ?_)
             · have hq : i' * esz + j < cp.toNat * esz := by
                 have h1 : (i' + 1) * esz <= n.toNat * esz := Nat.mul_le_mul_right _ hi'
                 rw [Nat.add_mul] at h1
                 omega
               have hmod : (i' * esz + j) % esz = j := by rw [Nat.mul_comm, Nat.mul_add_mod, Nat.mod_eq_of_lt hj]
               have h2 : j < z.cells.size := by omega
               refine ⟨z.cells.getD j undef, ?_, i4 _ _ (getD_some h2), zcv ((i6 w.heap D μ).2 j _ _ (zak .dead ei.zero j (by omega)) (getD_some h2)) (zc4 hfr _ _ (zak _ _ _ (by omega)))⟩
               simp [madeCells, hes.1, hq, hsz, hmod]
               rw [getElem!_pos z.cells _ h2]
               simp [h2]
             · have := R.sl (h := (w.alloc (.cells (madeCells z.cells (cp.toNat * ei'.size)) e')).heap) (D := D') d esz 0 n.toNat w.heap.size _ n.toNat cp.toNat hm (by omega) (by rw [hms]; simp) (by omega)
               simpa [std] using this
           · trivial
         · trivial
       · trivial
     · trivial
   · trivial
theorem zvw (hT : zbd P T) {t : Nat} {x y : Operand} (e : o.op = .store t x y) {vals : List AV} (hv : Ops w.heap D μ a [x, y] vals) {ob : Nat -> Option Ob} (hob : ∀ id z, ob id = some z -> g id = some z) {ice : Nat -> Bool} (hice : ∀ id, ice id = false -> c id = false) :
   zbw P base M W nt f g c o a w (yd8 T std t ob ice vals) := by
 match vals, hv with
 | [p, v], ⟨hp, hv, _⟩ =>
   unfold yd8
   simp only
   split
   · rename_i i hi
     have ok := hT t i hi
     split
     · rename_i hsz
       have hsz := za1 hsz
       rw [zai] at hsz
       have goD : zhi v = true -> ∀ (D' : Nat -> Prop) (ids : List Nat), Sim base M W nt f g (zhd c ids) a w D' μ -> ∀ (id b z m off : Nat) (ob0 ob' : Ob) (C : Array Value) (t' : TypeId) (fr : Nat × Nat), a.eval x = .pointer (some ⟨b, off, none⟩) -> μ id = some (some (b, z, m)) -> g id = some ob0 -> ob0 ≠ .gone -> ob' ≠ .gone /\ zau ob' = false -> zhd c ids id = false ->
           w.heap[b]? = some (.cells C t' fr) -> zu3 C.size fr -> off + i.sz <= C.size ->
           (RLL w.heap D μ v.cells (a.eval y).cells.toList -> (∀ k, D' k -> (w.setRow b (zb0 C off (a.eval y).cells.toList)).heap[k]? = w.heap[k]?) -> zdg (w.setRow b (zb0 C off (a.eval y).cells.toList)).heap D' μ ob' (some (b, z, m))) ->
           Adv P base M W nt f g c o a w .dead [(id, ob')] ids := by
         intro hs D' ids h' id b z m off ob0 ob' C t' fr hx hμ hg hne hne' hc hb hf hfit hok
         have rc := zg9 hv hs
         have hlen := rc.len
         have hst := zcw P b off t' fr (a.eval y).cells.toList 0 C w hb hf (by rw [<- hlen]; omega) (fun u hu => by
           obtain ⟨j, hj⟩ := List.getElem?_of_mem hu
           have hlt : j < v.cells.length := by rw [hlen]; exact (List.getElem?_eq_some_iff.1 hj).1
           exact (rc.get j v.cells[j] u (by simp [hlt]) hj).2)
         have run : (execOp a.eval o).run P w = .ok .skip (w.setRow b (zb0 C off (a.eval y).cells.toList)) := by
           unfold execOp
           rw [e]
           have hs2 : ¬ ((a.eval y).cells.size ≠ i.sz) := by
             have : (a.eval y).cells.toList.length = i.sz := by rw [<- hlen, hsz]
             simpa using this
           simp only [Nat.add_zero] at hst
           simp [hx, Instr.storeAt, Instr.sureAddr, storeVar, ok.sizeOf]
           rw [if_pos (by simpa using hs2)]
           simp [hst]
         intro K Q hK
         unfold Oper.wp
         rw [run]
         have h1 := h'.write (C' := zb0 C off (a.eval y).cells.toList) hμ hg hne hne'.1 hc hb (hok rc) hne'.2
         exact hK _ _ ⟨_, _, h1.put hd (.dead _)⟩
       have goT : zhi v = true -> ∀ (p k b z m off : Nat) (C : Array Value) (t' : TypeId) (fr : Nat × Nat) (ty sz n : Nat) (len : Nat -> Nat) (get get' : Nat -> Nat -> Nat -> AV), a.eval x = .pointer (some ⟨b, off, none⟩) -> μ (mid p k) = some (some (b, z, m)) -> g p = some (.tab ty sz n len get) ->
           (∀ j, j ≠ k -> ∀ i q h D μ v, R h D μ (get j i q) v -> R h D μ (get' j i q) v) -> w.heap[b]? = some (.cells C t' fr) -> zu3 C.size fr -> off + i.sz <= C.size ->
           (RLL w.heap D μ v.cells (a.eval y).cells.toList -> (∀ k, D k -> (w.setRow b (zb0 C off (a.eval y).cells.toList)).heap[k]? = w.heap[k]?) -> zdg (w.setRow b (zb0 C off (a.eval y).cells.toList)).heap D μ (.row ty sz (len k) (get' k)) (some (b, z, m))) ->
           Adv P base M W nt f g c o a w .dead [(p, .tab ty sz n len get')] [] := by
         intro hs p k b z m off C t' fr ty sz n len get get' hx hμ hg hget hb hf hfit hok
         have rc := zg9 hv hs
         have hlen := rc.len
         have hst := zcw P b off t' fr (a.eval y).cells.toList 0 C w hb hf (by rw [<- hlen]; omega) (fun u hu => by
           obtain ⟨j, hj⟩ := List.getElem?_of_mem hu
           have hlt : j < v.cells.length := by rw [hlen]; exact (List.getElem?_eq_some_iff.1 hj).1
           exact (rc.get j v.cells[j] u (by simp [hlt]) hj).2)
         have run : (execOp a.eval o).run P w = .ok .skip (w.setRow b (zb0 C off (a.eval y).cells.toList)) := by
           unfold execOp
           rw [e]
           have hs2 : ¬ ((a.eval y).cells.size ≠ i.sz) := by
             have : (a.eval y).cells.toList.length = i.sz := by rw [<- hlen, hsz]
             simpa using this
           simp only [Nat.add_zero] at hst
           simp [hx, Instr.storeAt, Instr.sureAddr, storeVar, ok.sizeOf]
           rw [if_pos (by simpa using hs2)]
           simp [hst]
         intro K Q hK
         unfold Oper.wp
         rw [run]
         have h1 := h.writeT (C' := zb0 C off (a.eval y).cells.toList) hμ hg hget (hok rc)
         exact hK _ _ ⟨_, _, h1.put hd (.dead _)⟩
       have go : zhi v = true -> ∀ (id b z m off : Nat) (ob0 ob' : Ob) (C : Array Value) (t' : TypeId) (fr : Nat × Nat), a.eval x = .pointer (some ⟨b, off, none⟩) -> μ id = some (some (b, z, m)) -> g id = some ob0 -> ob0 ≠ .gone -> ob' ≠ .gone /\ zau ob' = false -> c id = false ->
           w.heap[b]? = some (.cells C t' fr) -> zu3 C.size fr -> off + i.sz <= C.size ->
           (RLL w.heap D μ v.cells (a.eval y).cells.toList -> (∀ k, D k -> (w.setRow b (zb0 C off (a.eval y).cells.toList)).heap[k]? = w.heap[k]?) -> zdg (w.setRow b (zb0 C off (a.eval y).cells.toList)).heap D μ ob' (some (b, z, m))) ->
           Adv P base M W nt f g c o a w .dead [(id, ob')] [] := fun hs id b z m off ob0 ob' C t' fr hx hμ hg hne hne' hc => goD hs D [] (by rw [zdk]; exact h) id b z m off ob0 ob' C t' fr hx hμ hg hne hne' (by rw [zdk]; exact hc)
       cases hs : zhi v with
       | false => trivial
       | true =>
         simp only [cond_true]
         split
         · rename_i id off
           split
           · rename_i hic
             have hic := hice _ hic
             split
             · rename_i cs hg
               have hg := hob _ _ hg
               split
               · rename_i hle
                 have hle := zb2 hle
                 rw [zai] at hle
                 generalize hu : a.eval x = u at *
                 cases hp with
                 | ref _ _ b z m hμ =>
                   obtain ⟨C, t', fr, hh, hcs, hf, h1, e1, hr⟩ := h.obs id _ _ hg hμ
                   refine go hs id b z m off _ _ C t' fr rfl hμ hg (by simp) ⟨by simp, rfl⟩ hic hh (by rw [hcs]; exact hf.1) (by omega) (fun rc hD => ?_)
                   obtain ⟨w1, w2⟩ := zn6 off ⟨e1, hr⟩ h1 rc
                   exact ⟨_, t', fr, setRow_heap w b C _ t' fr hh, by rw [zaq, hcs], hf, w2, w1.1, fun j x' v' hx' hv' => (w1.2 j x' v' hx' hv').mono hD (fun _ h => h) (fun _ _ h => h)⟩
               · trivial
             · rename_i ty sz n get hg
               have hg := hob _ _ hg
               split
               · rename_i hz hfr
                 have hz := za1 hz
                 generalize hu : a.eval x = u at *
                 cases hp with
                 | ref _ _ b z m hμ =>
                   obtain ⟨hm, C, t', fr, hh, hcs, hf, hle, hrow⟩ := h.obs id _ _ hg hμ
                   have key : ∀ get2 : Nat -> Nat -> AV, (∀ i' j, i' < n -> j < sz -> v.cells[i' * sz + j]? = some (get2 i' j)) -> Adv P base M W nt f g c o a w .dead [(id, .row ty sz n get2)] [] := by
                     intro get2 hget
                     refine go hs id b z m 0 _ _ C t' fr rfl hμ hg (by simp) ⟨by simp, rfl⟩ hic hh (by rw [hcs]; exact hf.1) (by omega) (fun rc hD => ?_)
                     refine ⟨hm, _, t', fr, setRow_heap w b C _ t' fr hh, by rw [zaq, hcs], ⟨hf.1, hf.2.1, zbn hf.2.2.1 rc.ones, hf.2.2.2⟩, hle, fun i' j hi' hj => ?_⟩
                     have hx' := hget i' j hi' hj
                     have hlt := (List.getElem?_eq_some_iff.1 hx').1
                     have hlen := rc.len
                     have hval : ((a.eval y).cells.toList)[i' * sz + j]? = some ((a.eval y).cells.toList[i' * sz + j]'(by omega)) := by simp
                     obtain ⟨q1, q2⟩ := rc.get _ _ _ hx' hval
                     refine ⟨_, ?_, q2, (zcv q1 (zc4 hfr _ _ hx')).mono hD (fun _ h => h) (fun _ _ h => h)⟩
                     rw [zaf _ _ _ _ (by omega), if_pos ⟨Nat.zero_le _, by omega⟩, Nat.sub_zero, hval]
                   split
                   · rename_i k get' hs1 _
                     have hs1 := za1 hs1
                     subst hs1
                     refine key _ (fun i' j hi' hj => ?_)
                     have hk : (AV.arr k get').cells.length = k := zgj _ _ _
                     have h0 : j = 0 := by omega
                     subst h0
                     show (zln get' 0 k)[i' * 1 + 0]? = some (get' i')
                     rw [zeg, if_pos (by omega), Nat.zero_add, Nat.mul_one, Nat.add_zero]
                   · exact key _ (fun i' j hi' hj => zeq (by omega) hi' hj)
               · trivial
             · rename_i cs hg
               have hg := hob _ _ hg
               split
               · rename_i hle
                 have hle := zb2 hle
                 rw [zai] at hle
                 generalize hu : a.eval x = u at *
                 cases hp with
                 | ref _ _ b z m hμ =>
                   obtain ⟨C, t', fr, hh, hcs, hf, hlz, hr⟩ := h.obs id _ _ hg hμ
                   refine go hs id b z m off _ _ C t' fr rfl hμ hg (by simp) ⟨by simp, rfl⟩ hic hh (by rw [hcs]; exact hf.1) (by omega) (fun rc hD => ?_)
                   have hlen := rc.len
                   refine ⟨_, t', fr, setRow_heap w b C _ t' fr hh, by rw [zaq, hcs], hf, by rw [zet]; exact hlz, fun j x' hx' => ?_⟩
                   have hj : j < cs.length := by rw [<- zet v.cells cs off]; exact (List.getElem?_eq_some_iff.1 hx').1
                   obtain ⟨v0, v1, v2, v3⟩ := hr j cs[j] (by simp [hj])
                   have hjC := (Array.getElem?_eq_some_iff.1 v1).1
                   rw [ziq v.cells cs off j hj] at hx'
                   rw [zaf _ _ _ _ hjC]
                   by_cases hin : off <= j /\ j < off + v.cells.length
                   · rw [if_pos hin] at hx'
                     rw [if_pos (by omega)]
                     have hval : ((a.eval y).cells.toList)[j - off]? = some ((a.eval y).cells.toList[j - off]'(by omega)) := by simp
                     obtain ⟨q1, q2⟩ := rc.get _ _ _ hx' hval
                     exact ⟨_, hval, q2, q1.mono hD (fun _ h => h) (fun _ _ h => h)⟩
                   · rw [if_neg hin] at hx'
                     rw [if_neg (by omega)]
                     rw [show cs[j]? = some cs[j] by simp [hj]] at hx'
                     cases hx'
                     exact ⟨v0, v1, v2, v3.mono hD (fun _ h => h) (fun _ _ h => h)⟩
               · trivial
             · trivial
           · trivial
         · rename_i id sz q off
           split
           · rename_i hic
             have hic := hice _ hic
             split
             · rename_i qq ty' sz' n get hg
               have hg := hob _ _ hg
               split
               · rename_i hsz'
                 obtain rfl := za1 hsz'
                 split
                 · rename_i hle
                   have hle := zb2 hle
                   split
                   rotate_left
                   · trivial
                   rename_i cs' himm
                   split
                   rotate_left
                   · trivial
                   rename_i hnot
                   obtain ⟨l1, l2, l3⟩ := znm h hob himm (ids := zf1 v.cells) (fun _ h => h)
                   have h' := h.freeze (zf1 v.cells) l2
                   have hic' : zhd c (zf1 v.cells) id = false := by simp [zhd, hnot, hic]
                   generalize hu : a.eval x = u at *
                   cases hp with
                   | eref _ _ _ _ b z m hμ hq =>
                     obtain ⟨hm, C, t', fr, hh, hcs, hf, hle', hrow⟩ := h'.obs id _ _ hg hμ
                     have hqn : (q + 1) * sz <= n * sz := Nat.mul_le_mul_right _ (by omega)
                     rw [Nat.add_mul] at hqn
                     refine goD hs _ _ h' id b z m (q * sz + off) _ _ C t' fr rfl hμ hg (by simp) ⟨by simp, rfl⟩ hic' hh (by rw [hcs]; exact hf.1) (by omega) (fun rc hD => ?_)
                     refine ⟨hm, _, t', fr, setRow_heap w b C _ t' fr hh, by rw [zaq, hcs], ⟨hf.1, hf.2.1, zbn hf.2.2.1 rc.ones, hf.2.2.2⟩, hle', fun i' j hi' hj => ?_⟩
                     have hlen := rc.len
                     obtain ⟨y0, y1, y2, y3⟩ := hrow i' j hi' hj
                     have hin : i' * sz + j < C.size := (Array.getElem?_eq_some_iff.1 y1).1
                     rw [zee]
                     by_cases hjr : off <= j /\ j < off + i.sz
                     · rw [if_pos hjr]
                       by_cases hqi : i' = q
                       · subst hqi
                         have hcell : v.cells[j - off]? = some (zbl .dead v.cells (j - off)) := zak _ _ _ (by omega)
                         have hcell' : cs'[j - off]? = some (zbl .dead cs' (j - off)) := zak _ _ _ (by omega)
                         have hval : ((a.eval y).cells.toList)[j - off]? = some ((a.eval y).cells.toList[j - off]'(by omega)) := by simp
                         obtain ⟨q1, q2⟩ := rc.get _ _ _ hcell hval
                         have q3 := l3 _ _ _ _ hcell hcell' q1
                         refine ⟨_, ?_, q2, ?_⟩
                         · rw [zaf _ _ _ _ hin, if_pos ⟨by omega, by omega⟩]
                           rw [show i' * sz + j - (i' * sz + off) = j - off by omega]
                           exact hval
                         · rw [za3]
                           exact zbq (q3.mono hD (fun _ h => h) (fun _ _ h => h)) _
                       · refine ⟨y0, ?_, y2, ?_⟩
                         · rw [zaf _ _ _ _ hin, if_neg]
                           · exact y1
                           · rintro ⟨p1, p2⟩
                             have hlenz : (a.eval y).cells.toList.length = i.sz := by omega
                             rcases Nat.lt_or_gt_of_ne hqi with hlt | hgt
                             · have h3 : (i' + 1) * sz <= q * sz := Nat.mul_le_mul_right _ hlt
                               rw [Nat.add_mul] at h3
                               omega
                             · have h3 : (q + 1) * sz <= i' * sz := Nat.mul_le_mul_right _ hgt
                               rw [Nat.add_mul] at h3
                               omega
                         · rw [zac hqi]
                           exact zba (y3.mono hD (fun _ h => h) (fun _ _ h => h)) _
                     · rw [if_neg hjr]
                       refine ⟨y0, ?_, y2, y3.mono hD (fun _ h => h) (fun _ _ h => h)⟩
                       rw [zaf _ _ _ _ hin, if_neg]
                       · exact y1
                       · rintro ⟨p1, p2⟩
                         have hlenz : (a.eval y).cells.toList.length = i.sz := by omega
                         by_cases hqi : i' = q
                         · subst hqi; omega
                         · rcases Nat.lt_or_gt_of_ne hqi with hlt | hgt
                           · have h3 : (i' + 1) * sz <= q * sz := Nat.mul_le_mul_right _ hlt
                             rw [Nat.add_mul] at h3
                             omega
                           · have h3 : (q + 1) * sz <= i' * sz := Nat.mul_le_mul_right _ hgt
                             rw [Nat.add_mul] at h3
                             omega
                 · trivial
               · trivial
             · rename_i ty' sz' n get hg
               have hg := hob _ _ hg
               split
               · split
                 · rename_i qq hsz' hqq
                   obtain rfl := za1 hsz'
                   split
                   · rename_i hle
                     have hle := zb2 hle
                     split
                     rotate_left
                     · trivial
                     rename_i cs' himm
                     split
                     rotate_left
                     · trivial
                     rename_i hnot
                     obtain ⟨l1, l2, l3⟩ := znm h hob himm (ids := zf1 v.cells) (fun _ h => h)
                     have h' := h.freeze (zf1 v.cells) l2
                     have hic' : zhd c (zf1 v.cells) id = false := by simp [zhd, hnot, hic]
                     generalize hu : a.eval x = u at *
                     cases hp with
                     | eref _ _ _ _ b z m hμ hq =>
                       obtain ⟨hm, C, t', fr, hh, hcs, hf, hle', hrow⟩ := h'.obs id _ _ hg hμ
                       have hqn : (q + 1) * sz <= n * sz := Nat.mul_le_mul_right _ (by omega)
                       rw [Nat.add_mul] at hqn
                       refine goD hs _ _ h' id b z m (q * sz + off) _ _ C t' fr rfl hμ hg (by simp) ⟨by simp, rfl⟩ hic' hh (by rw [hcs]; exact hf.1) (by omega) (fun rc hD => ?_)
                       refine ⟨hm, _, t', fr, setRow_heap w b C _ t' fr hh, by rw [zaq, hcs], ⟨hf.1, hf.2.1, zbn hf.2.2.1 rc.ones, hf.2.2.2⟩, hle', fun i' j hi' hj => ?_⟩
                       have hlen := rc.len
                       obtain ⟨y0, y1, y2, y3⟩ := hrow i' j hi' hj
                       have hin : i' * sz + j < C.size := (Array.getElem?_eq_some_iff.1 y1).1
                       rw [zee]
                       by_cases hjr : off <= j /\ j < off + i.sz
                       · rw [if_pos hjr]
                         by_cases hqi : i' = q
                         · subst hqi
                           have hcell : v.cells[j - off]? = some (zbl .dead v.cells (j - off)) := zak _ _ _ (by omega)
                           have hcell' : cs'[j - off]? = some (zbl .dead cs' (j - off)) := zak _ _ _ (by omega)
                           have hval : ((a.eval y).cells.toList)[j - off]? = some ((a.eval y).cells.toList[j - off]'(by omega)) := by simp
                           obtain ⟨q1, q2⟩ := rc.get _ _ _ hcell hval
                           have q3 := l3 _ _ _ _ hcell hcell' q1
                           refine ⟨_, ?_, q2, ?_⟩
                           · rw [zaf _ _ _ _ hin, if_pos ⟨by omega, by omega⟩]
                             rw [show i' * sz + j - (i' * sz + off) = j - off by omega]
                             exact hval
                           · rw [za3]
                             exact zbq (q3.mono hD (fun _ h => h) (fun _ _ h => h)) _
                         · refine ⟨y0, ?_, y2, ?_⟩
                           · rw [zaf _ _ _ _ hin, if_neg]
                             · exact y1
                             · rintro ⟨p1, p2⟩
                               have hlenz : (a.eval y).cells.toList.length = i.sz := by omega
                               rcases Nat.lt_or_gt_of_ne hqi with hlt | hgt
                               · have h3 : (i' + 1) * sz <= q * sz := Nat.mul_le_mul_right _ hlt
                                 rw [Nat.add_mul] at h3
                                 omega
                               · have h3 : (q + 1) * sz <= i' * sz := Nat.mul_le_mul_right _ hgt
                                 rw [Nat.add_mul] at h3
                                 omega
                           · rw [zac hqi]
                             exact zba (y3.free.mono hD (fun _ h => h) (fun _ _ h => h)) _
                       · rw [if_neg hjr]
                         refine ⟨y0, ?_, y2, y3.free.mono hD (fun _ h => h) (fun _ _ h => h)⟩
                         rw [zaf _ _ _ _ hin, if_neg]
                         · exact y1
                         · rintro ⟨p1, p2⟩
                           have hlenz : (a.eval y).cells.toList.length = i.sz := by omega
                           by_cases hqi : i' = q
                           · subst hqi; omega
                           · rcases Nat.lt_or_gt_of_ne hqi with hlt | hgt
                             · have h3 : (i' + 1) * sz <= q * sz := Nat.mul_le_mul_right _ hlt
                               rw [Nat.add_mul] at h3
                               omega
                             · have h3 : (q + 1) * sz <= i' * sz := Nat.mul_le_mul_right _ hgt
                               rw [Nat.add_mul] at h3
                               omega
                   · trivial
                 · trivial
               · split
                 · rename_i hsz'
                   obtain rfl := za1 hsz'
                   split
                   · rename_i hle
                     have hle := zb2 hle
                     split
                     rotate_left
                     · trivial
                     rename_i cs' himm
                     split
                     rotate_left
                     · trivial
                     rename_i hnot
                     obtain ⟨l1, l2, l3⟩ := zl1 h hob himm (ids := zf1 v.cells) (fun _ h => h)
                     have h' := h.freeze (zf1 v.cells) l2
                     have hic' : zhd c (zf1 v.cells) id = false := by simp [zhd, hnot, hic]
                     generalize hu : a.eval x = u at *
                     cases hp with
                     | eref _ _ _ _ b z m hμ hq =>
                       obtain ⟨hm, C, t', fr, hh, hcs, hf, hle', hrow⟩ := h'.obs id _ _ hg hμ
                       have hqn : (q + 1) * sz <= n * sz := Nat.mul_le_mul_right _ (by omega)
                       rw [Nat.add_mul] at hqn
                       refine goD hs _ _ h' id b z m (q * sz + off) _ _ C t' fr rfl hμ hg (by simp) ⟨by simp, rfl⟩ hic' hh (by rw [hcs]; exact hf.1) (by omega) (fun rc hD => ?_)
                       refine ⟨hm, _, t', fr, setRow_heap w b C _ t' fr hh, by rw [zaq, hcs], ⟨hf.1, hf.2.1, zbn hf.2.2.1 rc.ones, hf.2.2.2⟩, hle', fun i' j hi' hj => ?_⟩
                       have hlen := rc.len
                       obtain ⟨y0, y1, y2, y3⟩ := hrow i' j hi' hj
                       have hin : i' * sz + j < C.size := (Array.getElem?_eq_some_iff.1 y1).1
                       rw [zee]
                       by_cases hjr : off <= j /\ j < off + i.sz
                       · rw [if_pos hjr]
                         by_cases hqi : i' = q
                         · subst hqi
                           have hcell : v.cells[j - off]? = some (zbl .dead v.cells (j - off)) := zak _ _ _ (by omega)
                           have hcell' : cs'[j - off]? = some (zbl .dead cs' (j - off)) := zak _ _ _ (by omega)
                           have hval : ((a.eval y).cells.toList)[j - off]? = some ((a.eval y).cells.toList[j - off]'(by omega)) := by simp
                           obtain ⟨q1, q2⟩ := rc.get _ _ _ hcell hval
                           have q3 := l3 _ _ _ _ hcell hcell' q1
                           refine ⟨_, ?_, q2, ?_⟩
                           · rw [zaf _ _ _ _ hin, if_pos ⟨by omega, by omega⟩]
                             rw [show i' * sz + j - (i' * sz + off) = j - off by omega]
                             exact hval
                           · rw [za3]
                             exact zbq (q3.mono hD (fun _ h => h) (fun _ _ h => h)) _
                         · refine ⟨y0, ?_, y2, ?_⟩
                           · rw [zaf _ _ _ _ hin, if_neg]
                             · exact y1
                             · rintro ⟨p1, p2⟩
                               have hlenz : (a.eval y).cells.toList.length = i.sz := by omega
                               rcases Nat.lt_or_gt_of_ne hqi with hlt | hgt
                               · have h3 : (i' + 1) * sz <= q * sz := Nat.mul_le_mul_right _ hlt
                                 rw [Nat.add_mul] at h3
                                 omega
                               · have h3 : (q + 1) * sz <= i' * sz := Nat.mul_le_mul_right _ hgt
                                 rw [Nat.add_mul] at h3
                                 omega
                           · rw [zac hqi]
                             exact zba (y3.mono hD (fun _ h => h) (fun _ _ h => h)) _
                       · rw [if_neg hjr]
                         refine ⟨y0, ?_, y2, y3.mono hD (fun _ h => h) (fun _ _ h => h)⟩
                         rw [zaf _ _ _ _ hin, if_neg]
                         · exact y1
                         · rintro ⟨p1, p2⟩
                           have hlenz : (a.eval y).cells.toList.length = i.sz := by omega
                           by_cases hqi : i' = q
                           · subst hqi; omega
                           · rcases Nat.lt_or_gt_of_ne hqi with hlt | hgt
                             · have h3 : (i' + 1) * sz <= q * sz := Nat.mul_le_mul_right _ hlt
                               rw [Nat.add_mul] at h3
                               omega
                             · have h3 : (q + 1) * sz <= i' * sz := Nat.mul_le_mul_right _ hgt
                               rw [Nat.add_mul] at h3
                               omega
                   · trivial
                 · trivial
             · trivial
           · trivial
         · rename_i p k sz q off
           split
           · split
             · rename_i ty sz' n len get hg
               have hg := hob _ _ hg
               split
               · rename_i hsz'
                 obtain rfl := za1 hsz'
                 split
                 · rename_i hle
                   have hle := zb2 hle
                   split
                   rotate_left
                   · trivial
                   rename_i hfr
                   generalize hu : a.eval x = u at *
                   cases hp with
                   | aer _ _ _ _ _ b z m hμ hq =>
                     obtain ⟨hkn, hm, C, t', fr, hh, hcs, hf, hle', hrow⟩ := zk2 h hg hμ
                     have hqn : (q + 1) * sz <= len k * sz := Nat.mul_le_mul_right _ (by omega)
                     rw [Nat.add_mul] at hqn
                     refine goT hs p k b z m (q * sz + off) C t' fr ty sz n len get _ rfl hμ hg (fun j hj i' q' hp D2 μ2 v2 r => ?_) hh (by rw [hcs]; exact hf.1) (by omega) (fun rc hD => ?_)
                     · rw [zpr]
                       split
                       · rw [show (L2 std za5 j k) = false from zac hj, Bool.false_and]
                         exact zba r _
                       · exact r
                     refine ⟨hm, _, t', fr, setRow_heap w b C _ t' fr hh, by rw [zaq, hcs], ⟨hf.1, hf.2.1, zbn hf.2.2.1 rc.ones, hf.2.2.2⟩, hle', fun i' j hi' hj => ?_⟩
                     have hlen := rc.len
                     obtain ⟨y0, y1, y2, y3⟩ := hrow i' j hi' hj
                     have hin : i' * sz + j < C.size := (Array.getElem?_eq_some_iff.1 y1).1
                     rw [zpr, show (L2 std za5 k k) = true from za3 k, Bool.true_and]
                     by_cases hjr : off <= j /\ j < off + i.sz
                     · rw [if_pos hjr]
                       by_cases hqi : i' = q
                       · subst hqi
                         have hcell : v.cells[j - off]? = some (zbl .dead v.cells (j - off)) := zak _ _ _ (by omega)
                         have hval : ((a.eval y).cells.toList)[j - off]? = some ((a.eval y).cells.toList[j - off]'(by omega)) := by simp
                         obtain ⟨q1, q2⟩ := rc.get _ _ _ hcell hval
                         have q3 := zcv q1 (zc4 hfr _ _ hcell)
                         refine ⟨_, ?_, q2, ?_⟩
                         · rw [zaf _ _ _ _ hin, if_pos ⟨by omega, by omega⟩]
                           rw [show i' * sz + j - (i' * sz + off) = j - off by omega]
                           exact hval
                         · rw [show (L2 std za5 i' i') = true from za3 i']
                           exact zbq (q3.mono hD (fun _ h => h) (fun _ _ h => h)) _
                       · refine ⟨y0, ?_, y2, ?_⟩
                         · rw [zaf _ _ _ _ hin, if_neg]
                           · exact y1
                           · rintro ⟨p1, p2⟩
                             have hlenz : (a.eval y).cells.toList.length = i.sz := by omega
                             rcases Nat.lt_or_gt_of_ne hqi with hlt | hgt
                             · have h3 : (i' + 1) * sz <= q * sz := Nat.mul_le_mul_right _ hlt
                               rw [Nat.add_mul] at h3
                               omega
                             · have h3 : (q + 1) * sz <= i' * sz := Nat.mul_le_mul_right _ hgt
                               rw [Nat.add_mul] at h3
                               omega
                         · rw [show (L2 std za5 i' q) = false from zac hqi]
                           exact zba (y3.mono hD (fun _ h => h) (fun _ _ h => h)) _
                     · rw [if_neg hjr]
                       refine ⟨y0, ?_, y2, y3.mono hD (fun _ h => h) (fun _ _ h => h)⟩
                       rw [zaf _ _ _ _ hin, if_neg]
                       · exact y1
                       · rintro ⟨p1, p2⟩
                         have hlenz : (a.eval y).cells.toList.length = i.sz := by omega
                         by_cases hqi : i' = q
                         · subst hqi; omega
                         · rcases Nat.lt_or_gt_of_ne hqi with hlt | hgt
                           · have h3 : (i' + 1) * sz <= q * sz := Nat.mul_le_mul_right _ hlt
                             rw [Nat.add_mul] at h3
                             omega
                           · have h3 : (q + 1) * sz <= i' * sz := Nat.mul_le_mul_right _ hgt
                             rw [Nat.add_mul] at h3
                             omega
                 · trivial
               · trivial
             · trivial
           · trivial
         · rename_i id off n q
           split
           · rename_i hic
             have hic := hice _ hic
             split
             · rename_i ty cs hg
               have hg := hob _ _ hg
               split
               · rename_i x0 hcells hle
                 have hle := zb2 hle
                 rw [zai] at hle
                 have hs1 : i.sz = 1 := by rw [<- hsz, hcells]; rfl
                 generalize hu : a.eval x = u at *
                 cases hp with
                 | bidx _ _ _ _ b z m hμ hq =>
                   obtain ⟨C, t', fr, hh, hcs, hf, h1, e1, hr⟩ := h.obs id _ _ hg hμ
                   refine go hs id b z m (off + q) _ _ C t' fr rfl hμ hg (by simp) ⟨by simp, rfl⟩ hic hh (by rw [hcs]; exact hf.1) (by omega) (fun rc hD => ?_)
                   have hlen := rc.len
                   have hone : (a.eval y).cells.toList.length = 1 := by omega
                   rw [hcells] at rc
                   have hval : (a.eval y).cells.toList[0]? = some ((a.eval y).cells.toList[0]'(by omega)) := by simp
                   obtain ⟨q1, q2⟩ := rc.get 0 _ _ rfl hval
                   have hset : ∀ (l : List AV) (k j : Nat), (yi2 std q x0 k l)[j]? = l[j]?.map fun z => zci std (za5 q (k + j)) x0 z := by
                     intro l
                     induction l with
                     | nil => intro k j; simp [yi2]
                     | cons z l ih =>
                       intro k j
                       cases j with
                       | zero => simp [yi2, L2, std]
                       | succ j => simp [yi2, ih, Nat.add_comm, Nat.add_left_comm]
                   have hsl : ∀ (l : List AV) (k : Nat), (yi2 std q x0 k l).length = l.length := by
                     intro l
                     induction l with
                     | nil => intro k; rfl
                     | cons z l ih => intro k; simp [yi2, ih]
                   refine ⟨_, t', fr, setRow_heap w b C _ t' fr hh, by rw [zaq, hcs], hf, fun j v hv => ?_, by rw [zet, zaq]; exact e1, fun j x' v' hx' hv' => ?_⟩
                   · have hjC : j < C.size := by have := (Array.getElem?_eq_some_iff.1 hv).1; rwa [zaq] at this
                     rw [zaf _ _ _ _ hjC] at hv
                     split at hv
                     · have : j - (off + q) = 0 := by omega
                       rw [this, hval] at hv
                       cases hv; exact q2
                     · exact h1 j v hv
                   · have hjC : j < C.size := by have := (Array.getElem?_eq_some_iff.1 hv').1; rwa [zaq] at this
                     rw [zaf _ _ _ _ hjC] at hv'
                     have hj : j < cs.length := by omega
                     rw [ziq _ _ _ _ hj, hsl, zb6, zbi, List.length_take, List.length_drop, Nat.min_eq_left (by omega)] at hx'
                     by_cases hin : off <= j /\ j < off + n
                     · rw [if_pos hin, hset, List.getElem?_take, if_pos (by omega), List.getElem?_drop, show off + (j - off) = j by omega, List.getElem?_eq_getElem hj, Option.map_some, Nat.zero_add] at hx'
                       cases hx'
                       by_cases hjq : j = off + q
                       · rw [if_pos (by omega)] at hv'
                         rw [show j - (off + q) = 0 by omega, hval] at hv'
                         cases hv'
                         rw [show j - off = q by omega, za3]
                         exact (zbq q1 _).mono hD (fun _ h => h) (fun _ _ h => h)
                       · rw [if_neg (by omega)] at hv'
                         rw [zac (by omega : ¬ q = j - off)]
                         exact (zba (hr j cs[j] v' (by simp [hj]) hv') _).mono hD (fun _ h => h) (fun _ _ h => h)
                     · rw [if_neg hin] at hx'
                       rw [if_neg (by omega)] at hv'
                       exact (hr j x' v' hx' hv').mono hD (fun _ h => h) (fun _ _ h => h)
               · trivial
             · trivial
           · trivial
         · trivial
     · trivial
   · trivial
end
end Sy
end Go.Proofs.Ytogomcfgfnlclaa
namespace Go.Proofs.Ytogomcfgfnlclaa
namespace Sy
open Go Go.RowKit
set_option linter.unusedSimpArgs false
set_option linter.unusedVariables false
section
variable {P : Program}
def yn3 (P : Program) (t : Nat) : Prop := (∃ e, P.underlying t = some (.slice e)) \/ P.underlying t = some .string
theorem zbc (w : World) (t t' ty e : TypeId) (i : TypeInfo) (z : Value) (ht : P.underlying t = some (.slice e)) (ht' : yn3 P t') (hi : P.info? e = some i) (hz : i.zero = some z)
   (base : Option Addr) (sLen sCap : Nat) (x : Value) (m : Nat) (olds news : List Value) (ho : ∀ w', w'.heap = w.heap -> (Builtin.firstCells i.size sLen (.slice base sLen sCap)).run P w' = .ok olds.toArray w')
   (hn : ∀ w', w'.heap = w.heap -> (Builtin.firstCells i.size m x).run P w' = .ok news.toArray w') (hlx : (Builtin.lenOf x).run P w = .ok m w)
   (hg : sCap < sLen + m) (h63 : sLen + m <= 9223372036854775807) (hfit : Builtin.nextslicecap (sLen + m) sCap * i.bytes <= 281474976710656) :
   (Builtin.append_ #[t, t'] ty #[.slice base sLen sCap, x]).run P w =
     .ok (.slice (some ⟨w.heap.size, 0, none⟩) (sLen + m) (grownCap w (sLen + m) sCap e)) (w.drew.alloc (.cells (olds.toArray ++ news.toArray ++ Builtin.zeroCells z.cells (grownCap w (sLen + m) sCap e - (sLen + m))) e)) := by
 have hgt : ¬ (sLen + m <= sCap) := by omega
 have h63' : ¬ (9223372036854775807 < ((sLen : Int) + (m : Int))) := by omega
 have h48' : ¬ (281474976710656 < Builtin.nextslicecap (sLen + m) sCap * i.bytes) := by omega
 have hf := hn w.drew rfl
 have hfo := ho w.drew rfl
 rcases ht' with ⟨e', hd'⟩ | hd' <;> simp [Builtin.append_, run_underlying ht, run_underlying hd', sizeOf, typeInfo, zeroValue, hi, hz, hlx, hgt, h63', h48', Question.forced, hf, hfo, newRow, grownCap] <;> (congr 2; apply Array.ext'; simp [List.append_assoc])
theorem zcc (w : World) (t t' ty e : TypeId) (i : TypeInfo) (ht : P.underlying t = some (.slice e)) (ht' : yn3 P t') (hi : P.info? e = some i)
   (base : Option Addr) (sLen sCap : Nat) (x : Value) (m : Nat) (news : List Value) (hn : ∀ w', w'.heap = w.heap -> (Builtin.firstCells i.size m x).run P w' = .ok news.toArray w') (hlx : (Builtin.lenOf x).run P w = .ok m w)
   (hg : sLen + m <= sCap) {w' : World} (hst : ∀ ad, base = some ad -> (storeCells (ad.add (sLen * i.size)) news).run P w = .ok () w') (hb : base = none -> w' = w) :
   (Builtin.append_ #[t, t'] ty #[.slice base sLen sCap, x]).run P w = .ok (.slice base (sLen + m) sCap) w' := by
 have hf := hn w rfl
 cases base with
 | some ad =>
   have hs := hst ad rfl
   rcases ht' with ⟨e', hd'⟩ | hd' <;> simp [Builtin.append_, run_underlying ht, run_underlying hd', sizeOf, typeInfo, hi, hlx, hg, hf, hs]
 | none =>
   obtain rfl := hb rfl
   rcases ht' with ⟨e', hd'⟩ | hd' <;> simp [Builtin.append_, run_underlying ht, run_underlying hd', sizeOf, typeInfo, hi, hlx, hg, hf]
variable {T : TT} {base : Nat} {M : Two} {W : World} {nt : Nat} {f : Nat -> Option AV} {g : Nat -> Option Ob} {c : Nat -> Bool} {a : Act} {w : World} {D : Nat -> Prop} {μ : Mu} {o : Oper}
theorem zfx (hT : zbd P T) {t : Nat} (h : zcj T t = true) : yn3 P t := by
 unfold zcj at h
 split at h
 · rename_i i hi
   have ok := (hT t i hi).k
   split at h
   · rename_i hk; rw [hk] at ok; exact .inl ⟨_, ok.1⟩
   · rename_i hk; rw [hk] at ok; exact .inr ok
   · cases h
 · cases h
theorem zex (esz m b o' cap : Nat) (vs : Nat -> Nat -> Value) (hv : ∀ i j, i < m -> j < esz -> hcell w.heap b (o' + i * esz + j) = some (vs i j)) :
   ∃ news : List Value, news.length = m * esz /\ (∀ w', w'.heap = w.heap -> (Builtin.firstCells esz m (.slice (some ⟨b, o', none⟩) m cap)).run P w' = .ok news.toArray w') /\ (∀ i j, i < m -> j < esz -> news[i * esz + j]? = some (vs i j)) := by
 refine ⟨(List.range (m * esz)).map (fun q => vs (q / esz) (q % esz)), by simp, fun w' hw => ?_, fun i j hi hj => ?_⟩
 · have h1 := run_loadCells (P := P) w' ⟨b, o', none⟩ (m * esz) (fun q => vs (q / esz) (q % esz)) (fun q hq => by
     have h0 : 0 < esz := by
       rcases Nat.eq_zero_or_pos esz with h0 | h0
       · rw [h0] at hq; omega
       · exact h0
     rw [zbb, zel, hw]
     have := hv (q / esz) (q % esz) (Nat.div_lt_of_lt_mul (by rw [Nat.mul_comm]; exact hq)) (Nat.mod_lt _ h0)
     rw [Nat.add_assoc, show q / esz * esz + q % esz = q by rw [Nat.mul_comm]; exact Nat.div_add_mod q esz] at this
     exact this)
   simp [Builtin.firstCells, h1]
 · have hq : i * esz + j < m * esz := by
     have h1 : (i + 1) * esz <= m * esz := Nat.mul_le_mul_right _ hi
     rw [Nat.add_mul] at h1
     omega
   have e1 : (i * esz + j) / esz = i := by
     rw [Nat.mul_comm, Nat.mul_add_div (by omega), Nat.div_eq_of_lt hj]; omega
   have e2 : (i * esz + j) % esz = j := by rw [Nat.mul_comm, Nat.mul_add_mod, Nat.mod_eq_of_lt hj]
   simp [hq, e1, e2]
theorem zdw {cs : Array Value} {m sz i j : Nat} (hs : cs.size = sz) (hi : i < m) (hj : j < sz) : (Builtin.zeroCells cs m).toList[i * sz + j]? = some (cs.getD j undef) := by
 have hq : i * sz + j < m * sz := by
   have h1 : (i + 1) * sz <= m * sz := Nat.mul_le_mul_right _ hi
   rw [Nat.add_mul] at h1
   omega
 have hmod : (i * sz + j) % sz = j := by rw [Nat.mul_comm, Nat.mul_add_mod, Nat.mod_eq_of_lt hj]
 have hj' : j < cs.size := by omega
 simp [Builtin.zeroCells, hs, hq, hmod]
 rw [getElem!_pos cs _ hj']
 simp [hj']
theorem ze5 {C : Array Value} {l m : List Value} {z : Array Value} (e : C = l.toArray ++ m.toArray ++ z) (h1 : ∀ v ∈ l, one v) (h2 : ∀ v ∈ m, one v) (h3 : ∀ v ∈ z.toList, one v) : ones C := by
 subst e
 intro i v hv
 have := Array.mem_of_getElem? hv
 simp only [Array.mem_append, List.mem_toArray] at this
 rcases this with (h | h) | h
 · exact h1 v h
 · exact h2 v h
 · exact h3 v (by simpa using h)
theorem zc6 {l : List Value} {m sz : Nat} (hs : 0 < sz) (hl : l.length = m * sz) (h : ∀ i j, i < m -> j < sz -> ∃ v, l[i * sz + j]? = some v /\ one v) : ∀ v ∈ l, one v := by
 intro v hv
 obtain ⟨q, hq⟩ := List.getElem?_of_mem hv
 have hql : q < m * sz := by rw [<- hl]; exact (List.getElem?_eq_some_iff.1 hq).1
 obtain ⟨v', v1, v2⟩ := h (q / sz) (q % sz) (Nat.div_lt_of_lt_mul (by rw [Nat.mul_comm]; exact hql)) (Nat.mod_lt _ (by omega))
 rw [show q / sz * sz + q % sz = q by rw [Nat.mul_comm]; exact Nat.div_add_mod q sz, hq] at v1
 cases v1
 exact v2
theorem znc (h : Sim base M W nt f g c a w D μ) {esz m : Nat} {ob : Nat -> Option Ob} (hob : ∀ id z, ob id = some z -> g id = some z) {x : AV} {src : Nat -> Nat -> AV} {u : Value} (e : zch std esz ob x = some (m, src)) (r : R w.heap D μ x u) (hnx : ∀ id sz off n cap, x ≠ .slc id sz off n cap) (hnz : ∀ sz n get, x ≠ .lstx sz n get) :
   ∃ news : List Value, news.length = m * esz /\ (∀ w', w'.heap = w.heap -> (Builtin.firstCells esz m u).run P w' = .ok news.toArray w') /\ (Builtin.lenOf u).run P w = .ok m w /\
     ∀ i j, i < m -> j < esz -> ∃ v, news[i * esz + j]? = some v /\ one v /\ R w.heap D zar (src i j) v := by
 have empty : ∀ ad cap, m = 0 -> u = .slice ad 0 cap -> ∃ news : List Value, news.length = m * esz /\ (∀ w', w'.heap = w.heap -> (Builtin.firstCells esz m u).run P w' = .ok news.toArray w') /\ (Builtin.lenOf u).run P w = .ok m w /\
     ∀ i j, i < m -> j < esz -> ∃ v, news[i * esz + j]? = some v /\ one v /\ R w.heap D zar (src i j) v := by
   rintro ad cap rfl rfl
   refine ⟨[], by simp, fun w' hw => ?_, rfl, fun i j hi => by omega⟩
   cases ad with
   | none => simp [Builtin.firstCells]
   | some ad => simp [Builtin.firstCells, loadCells, loadCellsFrom]
 cases x with
 | slc id sz off n cap => exact absurd rfl (hnx id sz off n cap)
 | lstx sz n get => exact absurd rfl (hnz sz n get)
 | lst sz n get =>
   simp only [zch] at e
   split at e
   · rename_i hsz
     obtain rfl := za1 hsz
     cases e
     cases r with
     | lst0 _ _ ad cap hn => exact empty _ _ rfl rfl
     | lst _ _ _ b o' cap vs hD hc hv h1 hr =>
       obtain ⟨news, n1, n2, n3⟩ := zex (P := P) (w := w) sz m b o' cap vs hv
       exact ⟨news, n1, n2, rfl, fun i j hi hj => ⟨_, n3 i j hi hj, h1 i j hi hj, hr i j hi hj⟩⟩
   · cases e
 | nils =>
   simp only [zch] at e
   cases e
   cases r with
   | nils => exact empty _ _ rfl rfl
 | emp =>
   simp only [zch] at e
   cases e
   cases r with
   | emp ad cap => exact empty _ _ rfl rfl
 | emz =>
   simp only [zch] at e
   cases e
   cases r with
   | emz ad => exact empty _ _ rfl rfl
 | sl id sz off n =>
   simp only [zch] at e
   split at e
   · rename_i hsz
     obtain rfl := za1 hsz
     split at e
     · rename_i sz' n' get hg
       have hg := hob _ _ hg
       split at e
       · rename_i hsz'
         obtain rfl := za1 hsz'
         cases e
         cases r with
         | slv => exact empty _ _ rfl rfl
         | sl0 => exact empty _ _ rfl rfl
         | sl _ _ _ _ b z q cap hμ hn hz ho =>
           obtain ⟨hm, C, t', fr, hh, hcs, _, hle, hrow⟩ := h.obs id _ _ hg hμ
           have key : ∀ i j, i < m -> j < sz -> ∃ y, C[off * sz + i * sz + j]? = some y /\ one y /\ R w.heap D zar (get (off + i) j) y := by
             intro i j h1 h2
             obtain ⟨y, y1, y2, y3⟩ := hrow (off + i) j (by omega) h2
             rw [Nat.add_mul] at y1
             exact ⟨y, y1, y2, y3⟩
           obtain ⟨news, n1, n2, n3⟩ := zex (P := P) (w := w) sz m b (off * sz) cap (fun i j => C.getD (off * sz + i * sz + j) undef) (fun i j h1 h2 => by
             obtain ⟨y, y1, _⟩ := key i j h1 h2
             rw [zao hh]; exact getD_some (Array.getElem?_eq_some_iff.1 y1).1)
           refine ⟨news, n1, n2, rfl, fun i j hi hj => ⟨_, n3 i j hi hj, ?_⟩⟩
           obtain ⟨y, y1, y2, y3⟩ := key i j hi hj
           rw [getD_some (Array.getElem?_eq_some_iff.1 y1).1] at y1
           cases y1
           exact ⟨y2, y3⟩
       · cases e
     · cases e
   · cases e
 | str l =>
   simp only [zch] at e
   split at e
   · cases e
     obtain ⟨s, rfl, rfl⟩ := r.inv_str
     refine ⟨s.data.toList.map (fun b => .int .u8 b.toNat), by simp [std], fun w' hw => ?_, by simp [Builtin.lenOf, std], fun i j hi hj => ?_⟩
     · have e1 : (std List.length s.data.toList : Nat) = s.size := by simp [std]
       rw [e1]
       have e2 : (s.extract 0 s.size) = s := by
         apply ByteArray.ext
         simp
       simp only [Builtin.firstCells, Sem.run_pure, e2]
       congr 1
       apply Array.ext'
       simp
     · obtain rfl : j = 0 := by omega
       have hi' : i < s.data.size := by simpa [std] using hi
       have hb : s.data[i]? = some (s.data[i]) := Array.getElem?_eq_getElem hi'
       refine ⟨.int .u8 (s.data[i]).toNat, by simp [hb], rfl, ?_⟩
       have : zng s.data.toList (za7 i) = ((s.data[i]).toNat : Int) := by
         simp [zng, za7, List.getD, hb]
       show R w.heap D zar (.int .u8 (zng s.data.toList (za7 i))) _
       rw [this]
       exact .int _ _
   · cases e
 | _ => simp [zch] at e
theorem zf7 (h : Sim base M W nt f g c a w D μ) {esz m : Nat} {ob : Nat -> Option Ob} (hob : ∀ id z, ob id = some z -> g id = some z) {x : AV} {src : Nat -> Nat -> AV} {u : Value} (e : zch std esz ob x = some (m, src)) (r : R w.heap D μ x u) :
   ∃ news : List Value, news.length = m * esz /\ (∀ w', w'.heap = w.heap -> (Builtin.firstCells esz m u).run P w' = .ok news.toArray w') /\ (Builtin.lenOf u).run P w = .ok m w /\
     ∀ i j, i < m -> j < esz -> ∃ v, news[i * esz + j]? = some v /\ one v /\ R w.heap D zar (src i j) v := by
 by_cases hx : ∃ id sz off n cap, x = .slc id sz off n cap
 · obtain ⟨id, sz, off, n, cap, rfl⟩ := hx
   exact znc (x := .sl id sz off n) h hob e r.less (fun _ _ _ _ _ h => by cases h) (fun _ _ _ h => by cases h)
 · by_cases hy : ∃ sz n get, x = .lstx sz n get
   · obtain ⟨sz, n, get, rfl⟩ := hy
     exact znc (x := .lst sz n get) h hob e r.lessx (fun _ _ _ _ _ h => by cases h) (fun _ _ _ h => by cases h)
   · exact znc h hob e r (fun id sz off n cap h => hx ⟨id, sz, off, n, cap, h⟩) (fun sz n get h => hy ⟨sz, n, get, h⟩)
theorem zoe {n m esz : Nat} {get src : Nat -> Nat -> AV} {h : Array Obj} {D : Nat -> Prop} {C : Nat -> Option Value} (h1 : ∀ i j, i < n -> j < esz -> ∃ v, C (i * esz + j) = some v /\ one v /\ R h D zar (get i j) v)
   (h2 : ∀ i j, i < m -> j < esz -> ∃ v, C (n * esz + (i * esz + j)) = some v /\ one v /\ R h D zar (src i j) v) :
   ∀ i j, i < n + m -> j < esz -> ∃ v, C (i * esz + j) = some v /\ one v /\ R h D zar (zci std (L2 std zb3 i n) (get i j) (src (L2 std Nat.sub i n) j)) v := by
 intro i j hi hj
 by_cases hin : i < n
 · obtain ⟨v, v1, v2, v3⟩ := h1 i j hin hj
   refine ⟨v, v1, v2, ?_⟩
   have : L2 std zb3 i n = true := by show zb3 i n = true; rw [zc7]; exact hin
   rw [this]
   exact zbq v3 _
 · obtain ⟨v, v1, v2, v3⟩ := h2 (i - n) j (by omega) hj
   refine ⟨v, ?_, v2, ?_⟩
   · rw [<- Nat.add_assoc, <- Nat.add_mul, show n + (i - n) = i by omega] at v1
     exact v1
   · have : L2 std zb3 i n = false := by
       show zb3 i n = false
       cases e : zb3 i n with
       | false => rfl
       | true => exact absurd (zan e) hin
     rw [this]
     exact zba v3 _
theorem Sim.newNilG (h : Sim base M W nt f g c a w D μ) {d : Nat} (hlt : zct d = false) (hd : gx g d = none) {ty sz : Nat} {get : Nat -> Nat -> AV} {g' : Nat -> Option Ob} (hgd : gx g' d = some (.row ty sz 0 get)) (hg : ∀ i, i ≠ d -> zm2 g g' i) (ht : Plain g') :
   Sim base M W nt f g' c a w D (fun id => if id = d then some none else μ id) := by
 have hmd : μ d = none := (h.domx d).2 hd
 have hmm : ∀ id x, μ id = some x -> (if id = d then some none else μ id) = some x := by
   intro id x hx
   have : id ≠ d := by rintro rfl; rw [hmd] at hx; cases hx
   rw [if_neg this, hx]
 refine { h with slots := fun t v hv => (h.slots t v hv).mono (fun _ _ => rfl) (fun _ h => h) hmm, domx := fun id => ?_, obsx := fun id o' x h1 h2 => ?_, injx := ?_, own := ?_, kdx := ?_, icyx := ?_, pin := fun i y hp hy => ?_, tbs := ht, mems := fun id y h1 h2 => hmm _ _ (h.mems id y h1 h2) }
 rotate_right
 · by_cases e : i = d
   · rw [e, hlt] at hp; cases hp
   · rw [if_neg e] at hy; exact h.pin i y hp hy
 · by_cases e : id = d
   · rw [if_pos e, e, hgd]; simp
   · simp only [if_neg e]; exact h.domS (hg id e)
 · by_cases e : id = d
   · rw [if_pos e] at h2; rw [e, hgd] at h1; cases h1; cases h2; rfl
   · rw [if_neg e] at h2
     obtain ⟨o0, q1, _, _, q2⟩ := (hg id e).live h1
     exact q2 _ _ _ _ ((h.obsx id o0 x q1 h2).mono (fun _ _ => rfl) (fun _ h => h) hmm (fun _ _ _ _ => rfl))
 · intro id id' b z z' o1 o2 h1 h2 h3 h4 h5 h6
   by_cases e : id = d
   · rw [if_pos e] at h1; cases h1
   · by_cases e' : id' = d
     · rw [if_pos e'] at h2; cases h2
     · rw [if_neg e] at h1; rw [if_neg e'] at h2
       obtain ⟨p1, q1, r1, _⟩ := (hg id e).live h3
       obtain ⟨p2, q2, r2, _⟩ := (hg id' e').live h4
       exact h.injx id id' b z z' p1 p2 h1 h2 q1 q2 (r1 h5) (r2 h6)
 · intro id b z h1
   by_cases e : id = d
   · rw [if_pos e] at h1; cases h1
   · rw [if_neg e] at h1; exact h.own id b z h1
 · intro id b z o' h1 h2 h3
   by_cases e : id = d
   · rw [if_pos e] at h1; cases h1
   · rw [if_neg e] at h1
     obtain ⟨p1, q1, r1, _⟩ := (hg id e).live h2
     exact h.kdx id b z p1 h1 q1 (r1 h3)
 · intro id h1
   by_cases e : id = d
   · rw [e, hgd]; simp
   · exact (hg id e).some (h.icyx id h1)
theorem Sim.newNil (h : Sim base M W nt f g c a w D μ) {d : Nat} (hlt : zct d = false) (hd : g d = none) (ty sz : Nat) (get : Nat -> Nat -> AV) (hb : d < zbv) :
   Sim base M W nt f (zb7 g [(d, .row ty sz 0 get)]) c a w D (fun id => if id = d then some none else μ id) := by
 have hgp := zi2 (g := g) (o := .row ty sz 0 get) hb rfl (fun x hx => by rw [hd] at hx; cases hx)
 exact h.newNilG hlt (by rw [zab (zaw.2 hb), hd]) (by rw [hgp, if_pos rfl]) (fun i hi => .inl (by rw [hgp, if_neg hi])) (zie h.tbs hb (fun h => by cases h))
theorem Sim.gone (h : Sim base M W nt f g c a w D μ) {id : Nat} {ob : Ob} (hg : g id = some ob) (hnt : zau ob = false := by rfl) : Sim base M W nt f (zb7 g [(id, .gone)]) c a w D μ := by
 have hgp := zi2 (g := g) (o := .gone) (h.tbs id _ hg).1 rfl (fun x hx => by rw [hg] at hx; cases hx; exact hnt)
 refine { h with domx := fun i => ?_, obsx := fun i o' x h1 h2 => ?_, injx := ?_, kdx := ?_, icyx := ?_, tbs := zie h.tbs (h.tbs id _ hg).1 (fun h => by cases h) }
 · rw [hgp]
   by_cases e : i = id
   · subst e
     rw [if_pos rfl]
     have := h.domx i
     rw [h.tbs.up hg] at this
     simpa using this
   · rw [if_neg e]; exact h.domx i
 · rw [hgp] at h1
   by_cases e : i = id
   · rw [if_pos e] at h1; cases h1
     cases x <;> exact trivial
   · rw [if_neg e] at h1; exact h.obsx i o' x h1 h2
 · intro i i' b z z' o1 o2 h1 h2 h3 h4 h5 h6
   rw [hgp] at h3 h4
   by_cases e : i = id
   · rw [if_pos e] at h3; cases h3; exact absurd rfl h5
   · by_cases e' : i' = id
     · rw [if_pos e'] at h4; cases h4; exact absurd rfl h6
     · rw [if_neg e] at h3; rw [if_neg e'] at h4
       exact h.injx i i' b z z' o1 o2 h1 h2 h3 h4 h5 h6
 · intro i b z o1 h1 h2 h3
   rw [hgp] at h2
   by_cases e : i = id
   · rw [if_pos e] at h2; cases h2; exact absurd rfl h3
   · rw [if_neg e] at h2; exact h.kdx i b z o1 h1 h2 h3
 · intro i hi
   rw [hgp]
   by_cases e : i = id
   · rw [if_pos e]; simp
   · rw [if_neg e]; exact h.icyx i hi
theorem Sim.goneFree (h : Sim base M W nt f g c a w D μ) {id b : Nat} {z : Nat × Nat} {ob : Ob} (hμ : μ id = some (some (b, z))) (hg : g id = some ob) (hne : ob ≠ .gone) (hnt : zau ob = false := by rfl) :
   ∀ i o2 z2, μ i = some (some (b, z2)) -> gx (zb7 g [(id, .gone)]) i = some o2 -> o2 = .gone := by
 intro i o2 z2 k1 k2
 rw [zi2 (g := g) (o := .gone) (h.tbs id _ hg).1 rfl (fun x hx => by rw [hg] at hx; cases hx; exact hnt)] at k2
 by_cases k3 : i = id
 · rw [if_pos k3] at k2; cases k2; rfl
 · rw [if_neg k3] at k2
   by_cases k4 : o2 = .gone
   · exact k4
   · exact absurd (h.injx id i b _ z2 _ o2 hμ k1 (h.tbs.up hg) k2 hne k4) (fun h => k3 h.symm)
theorem Sim.adopt (h : Sim base M W nt f g c a w D μ) {d : Nat} (hlt : zct d = false) (hd : g d = none) (hdb : d < zbv) {b z m : Nat} (hb : b < w.heap.size) (hbase : base <= b \/ M.wr b) (hnD : ¬ D b) (hfree : ∀ i o z', μ i = some (some (b, z')) -> gx g i = some o -> o = .gone)
   {ob : Ob} (hne : ob ≠ .gone) (C' : Array Value) (hok : (∀ k, D k -> (w.setRow b C').heap[k]? = w.heap[k]?) -> zdg (w.setRow b C').heap D μ ob (some (b, z, m))) (hnt : zau ob = false := by rfl) :
   Sim base M W nt f (zb7 g [(d, ob)]) c a (w.setRow b C') D (fun id => if id = d then some (some (b, z, m)) else μ id) := by
 have hother : ∀ k, k ≠ b -> (w.setRow b C').heap[k]? = w.heap[k]? := fun k hk => zfu w b k C' hk
 have hDk : ∀ k, D k -> (w.setRow b C').heap[k]? = w.heap[k]? := fun k hk => hother k (by rintro rfl; exact hnD hk)
 have hdx : gx g d = none := by rw [zab (zaw.2 hdb), hd]
 have hmd : μ d = none := (h.domx d).2 hdx
 have hcd : c d = false := by
   cases e : c d with
   | false => rfl
   | true => exact absurd hdx (h.icyx d e)
 have hmm : ∀ id x, μ id = some x -> (if id = d then some (some (b, z, m)) else μ id) = some x := by
   intro id x hx
   have : id ≠ d := by rintro rfl; rw [hmd] at hx; cases hx
   rw [if_neg this, hx]
 have hgp := zi2 (g := g) (o := ob) hdb hnt (fun x hx => by rw [hd] at hx; cases hx)
 exact {
   os := h.os, tape := h.tape, output := h.output
   size := by rw [zd8]; exact h.size
   bs := by rw [zd8]; exact h.bs
   old := fun k h1 h2 => by
     rw [hother k (by
       rintro rfl
       rcases hbase with h3 | h3
       · omega
       · exact h2 h3)]
     exact h.old k h1 h2
   defers := h.defers, tmps := h.tmps
   slots := fun s v hv => (h.slots s v hv).mono hDk (fun _ h => h) hmm
   dlt := fun k hk => by rw [zd8]; exact h.dlt k hk
   low := h.low
   domx := fun i => by
     rw [hgp]
     by_cases e : i = d
     · simp [e]
     · simp only [if_neg e]; exact h.domx i
   obsx := fun i o' x h1 h2 => by
     rw [hgp] at h1
     by_cases e : i = d
     · rw [if_pos e] at h1 h2; cases h1; cases h2
       exact (hok hDk).mono (fun _ _ => rfl) (fun _ h => h) hmm (fun _ _ _ _ => rfl)
     · rw [if_neg e] at h1 h2
       refine (h.obsx i o' x h1 h2).mono hDk (fun _ h => h) hmm (fun b' z' hx hne2 => hother b' ?_)
       rintro rfl
       subst hx
       exact hne2 (hfree i o' z' h2 h1)
   injx := fun i i' b1 z1 z2 o1 o2 h1 h2 h3 h4 h5 h6 => by
     rw [hgp] at h3 h4
     by_cases e : i = d
     · by_cases e' : i' = d
       · rw [e, e']
       · rw [if_pos e] at h1; rw [if_neg e'] at h2 h4
         cases h1
         exact absurd (hfree i' o2 z2 h2 h4) h6
     · by_cases e' : i' = d
       · rw [if_pos e'] at h2; rw [if_neg e] at h1 h3
         cases h2
         exact absurd (hfree i o1 z1 h1 h3) h5
       · rw [if_neg e] at h1 h3; rw [if_neg e'] at h2 h4
         exact h.injx i i' b1 z1 z2 o1 o2 h1 h2 h3 h4 h5 h6
   own := fun i b1 z1 h1 => by
     rw [zd8]
     by_cases e : i = d
     · rw [if_pos e] at h1; cases h1; exact ⟨hb, hbase⟩
     · rw [if_neg e] at h1; exact h.own i b1 z1 h1
   kdx := fun i b1 z1 o1 h1 h2 h3 => by
     rw [hgp] at h2
     by_cases e : i = d
     · rw [if_pos e] at h1; cases h1
       subst e
       exact ⟨fun hx => (by rw [hcd] at hx; cases hx), fun _ => hnD⟩
     · rw [if_neg e] at h1 h2; exact h.kdx i b1 z1 o1 h1 h2 h3
   ntb := h.ntb
   tbs := zie h.tbs hdb (fun h => by rw [hnt] at h; cases h)
   icm := h.icm
   mems := fun id y h1 h2 => hmm _ _ (h.mems id y h1 h2)
   gl := h.gl
   pin := fun i y hp hy => by
     by_cases e : i = d
     · rw [e, hlt] at hp; cases hp
     · rw [if_neg e] at hy; exact h.pin i y hp hy
   icyx := fun i hi => by
     rw [hgp]
     by_cases e : i = d
     · rw [if_pos e]; simp
     · rw [if_neg e]; exact h.icyx i hi }
variable (h : Sim base M W nt f g c a w D μ) (hd : ∀ d, o.dst = some d -> d < nt)
include h hd
omit h hd in
theorem yjq {esz m : Nat} {ob : Nat -> Option Ob} {src : Nat -> Nat -> AV} {v : AV} (e : zch std esz ob v = some (m, src)) : yrq ob src v = src := by
 unfold yrq
 split
 · rename_i id sz n
   split
   · rename_i ty sz' n' get hg
     simp only [zch, hg] at e
     split at e
     · split at e
       · cases e
         funext i j
         simp [L2, std]
       · cases e
     · cases e
   · rfl
 · rfl
theorem zrp (hT : zbd P T) {x y : Operand} {ts : Array TypeId} {t t' : Nat} (hts : ts.toList = [t, t']) (e : o.op = .call { callee := .builtin .append, args := #[x, y], argTypes := ts }) {vals : List AV}
   (hv : Ops w.heap D μ a [x, y] vals) {ob : Nat -> Option Ob} (hob : ∀ id z, ob id = some z -> g id = some z) {ice : Nat -> Bool} (hice : ∀ id, ice id = false -> c id = false) :
   zbw P base M W nt f g c o a w (zot T std o.dst t t' ob ice (zcd g o.op o.dst) vals) := by
 obtain rfl : ts = #[t, t'] := by apply Array.ext'; simpa using hts
 match vals, hv with
 | [s, v], ⟨hs, hv, _⟩ =>
   unfold zot
   simp only
   split
   · rename_i d hc
     obtain ⟨hn, hdst⟩ := zbg hc
     have hnew : g d = none := by
       simp only [zcd, e, zbz, hdst] at hn
       cases hg : g d with
       | none => rfl
       | some _ => rw [hg] at hn; cases hn
     split
     · rename_i sz ag ze e' esz eb eqf p1 p2 p3 hi
       obtain ⟨ok1, ok2⟩ := (hT t _ hi).k
       obtain ⟨ei', hei', hes⟩ := Option.map_eq_some_iff.1 ok2
       simp only [Prod.mk.injEq] at hes
       obtain ⟨hes1, hes2⟩ := hes
       subst hes1; subst hes2
       split
       · rename_i m src hsrc
         have c1 : zcj T t' = true := by cases hx : zcj T t' <;> simp_all
         have c2 : zbh 1 ei'.size = true := by cases hx : zbh 1 ei'.size <;> simp_all
         have c3 : (T.find e').isSome = true := by cases hx : (T.find e').isSome <;> simp_all
         rw [c1, c2, c3] at hsrc
         simp only [cond_true] at hsrc
         have hsrc0 := yjq hsrc
         have hni := zfx hT c1
         have hsp := zb2 c2
         obtain ⟨eti, heti⟩ := Option.isSome_iff_exists.1 c3
         obtain ⟨ii, z, i1, i2, i3, i4, i5, i6⟩ := (hT e' eti heti).info
         rw [hei'] at i1
         cases i1
         have hzs : z.cells.size = ei'.size := by rw [i5, <- i2]
         obtain ⟨news, n1, n2, n3, n4⟩ := zf7 (P := P) h hob hsrc hv
         have run : ∀ u w', (Builtin.append_ #[t, t'] o.type #[a.eval x, a.eval y]).run P w = .ok u w' -> (execOp a.eval o).run P w = .ok (.value u) w' := by
           intro u w' hu
           unfold execOp
           rw [e]
           simp [resolve, invoke, builtin, hu]
         have fresh : ∀ (ad : Option Addr), a.eval x = .slice ad 0 0 -> (0 + m) * ei'.bytes <= 140737488355328 -> 0 + m <= 9223372036854775807 ->
             ∀ get' : Nat -> Nat -> AV, (∀ i j v, i < m -> j < ei'.size -> R w.heap D zar (src i j) v -> R w.heap D zar (get' i j) v) ->
             ∀ K Q, (∀ a' w', zgq base M W nt (zjq f o.dst (.sl d ei'.size 0 m)) (zb7 g [(d, .row e' ei'.size m get')]) c a' w' -> K a' w') -> o.wp P a w K Q := by
           intro ad hx hb1 hb2 get' hget K Q hK
           unfold Oper.wp
           have hfc : ∀ w', (Builtin.firstCells ei'.size 0 (.slice ad 0 0)).run P w' = .ok #[] w' := by
             intro w'
             cases ad <;> simp [Builtin.firstCells, loadCells, loadCellsFrom]
           rw [hx] at run
           by_cases hm0 : m = 0
           · subst hm0
             have hnil : news = [] := by apply List.eq_nil_of_length_eq_zero; rw [n1]; simp
             subst hnil
             have hr := zcc (P := P) w t t' o.type e' ei' ok1 hni hei' ad 0 0 (a.eval y) 0 [] n2 n3 (by omega) (w' := w) (fun ad _ => rfl) (fun _ => rfl)
             rw [run _ _ hr]
             exact hK _ _ ⟨_, _, (h.newNil (zww (hd _ hdst) h.ntb) hnew e' ei'.size get' (zj4 (hd _ hdst) h.ntb)).put hd (.slv _ _ _ (by simp))⟩
           · have hg0 : 0 < 0 + m := by omega
             have hr := zbc (P := P) w t t' o.type e' ei' z ok1 hni hei' i3 ad 0 0 (a.eval y) m [] news (fun w' _ => hfc w') n2 n3 hg0 hb2 (growslice_fits hg0 hb1)
             rw [run _ _ hr]
             have hw : Sim base M W nt f g c a w.drew D μ := h.drew
             obtain ⟨C, hC⟩ : ∃ C, C = ([] : List Value).toArray ++ news.toArray ++ Builtin.zeroCells z.cells (grownCap w (0 + m) 0 e' - (0 + m)) := ⟨_, rfl⟩
             have hge := grownCap_ge w (0 + m) 0 e'
             have hCs : C.size = grownCap w (0 + m) 0 e' * ei'.size := by
               rw [hC]
               simp only [Array.size_append, size_zeroCells, List.size_toArray, List.length_nil, n1, hzs]
               rw [Nat.zero_add, <- Nat.add_mul]
               congr 1
               omega
             rw [<- hC]
             have hle : m * ei'.size <= C.size := by rw [hCs]; exact Nat.mul_le_mul_right _ (by omega)
             have hnew' := hw.new (hd _ hdst) hnew (.row e' ei'.size m get') C e' m (by simp) (zfv hw hle (ze5 hC (fun v hv => by simp at hv) (zc6 hsp n1 (fun i j hi hj => by obtain ⟨v, v1, v2, _⟩ := n4 i j hi hj; exact ⟨v, v1, v2⟩)) (zc6 hsp (by simp [size_zeroCells, hzs]) (fun i j hi hj => ⟨_, zdw hzs hi hj, i4 _ _ (getD_some (by omega))⟩))) (fun i j hi hj => by
               obtain ⟨v, v1, v2, v3⟩ := n4 i j hi hj
               have hlt := (List.getElem?_eq_some_iff.1 v1).1
               refine ⟨v, ?_, v2, hget i j v hi hj v3⟩
               rw [hC]
               simp [Array.getElem?_append, hlt]
               exact (List.getElem?_eq_some_iff.1 v1).2))
             refine hK _ _ ⟨_, _, hnew'.put hd ?_⟩
             have := R.sl (h := (w.drew.alloc (.cells C e')).heap) (D := D) (μ := fun id => if id = d then some (some (w.drew.heap.size, C.size, m)) else μ id) d ei'.size 0 m w.heap.size C.size m (grownCap w (0 + m) 0 e') (by simp) (by omega) (by rw [hCs]; simp) (by omega)
             simpa using this
         split
         ·
           intro hb
           have hb' : (0 + m) * ei'.bytes <= 140737488355328 /\ 0 + m <= 9223372036854775807 := by simpa [L3, std, zbx] using hb
           generalize hu : a.eval x = u at hs
           cases hs with
           | nils =>
             intro K Q hK
             refine fresh none hu hb'.1 hb'.2 src (fun i j v _ _ r => r) K Q (fun a' w' hsim => hK a' w' ?_)
             rw [zdk]
             exact hsim
         ·
           intro hb
           have hb' : (0 + m) * ei'.bytes <= 140737488355328 /\ 0 + m <= 9223372036854775807 := by simpa [L3, std, zbx] using hb
           generalize hu : a.eval x = u at hs
           cases hs with
           | emz ad =>
             intro K Q hK
             refine fresh (some ad) hu hb'.1 hb'.2 src (fun i j v _ _ r => r) K Q (fun a' w' hsim => hK a' w' ?_)
             rw [zdk]
             exact hsim
         · rename_i id sz' off n
           split
           · rename_i ty sz'' n' get hsz hic hg
             have hic := hice _ hic
             have hg := hob _ _ hg
             obtain rfl := za1 hsz
             split
             · trivial
             · rename_i hsz'
               obtain rfl := za1 hsz'
               split
               · trivial
               rename_i hty
               obtain rfl : e' = ty := (za1 hty).symm
               intro hb
               have hb' : (n + m) * ei'.bytes <= 140737488355328 /\ n + m <= 9223372036854775807 := by simpa [L3, std, zbx] using hb
               obtain ⟨hb1, hb2⟩ := hb'
               have hdid : d ≠ id := by rintro rfl; rw [hnew] at hg; cases hg
               obtain ⟨jg, hjg⟩ : ∃ jg, jg = fun i j => zci std (L2 std zb3 i n) (get i j) (src (L2 std Nat.sub i n) j) := ⟨_, rfl⟩
               have finish : ∀ a' w', zgq base M W nt (zjq f o.dst (.sl d ei'.size 0 (n + m))) (zb7 g [(d, .row e' ei'.size (n + m) jg)]) c a' w' -> zgq base M W nt (zjq f o.dst (.sl d ei'.size 0 (n + m))) (zb7 g [(d, .row e' ei'.size (n + m) jg), (id, .gone)]) (zhd c []) a' w' := by
                 rintro a' w' ⟨D', μ', hsim⟩
                 have hid : zb7 g [(d, .row e' ei'.size (n + m) jg)] id = some (.row e' ei'.size n' get) := by
                   simp [zb7, za2, zac hdid, hg]
                 have := hsim.gone hid
                 refine ⟨D', μ', ?_⟩
                 rw [zdk]
                 have e2 : zb7 (zb7 g [(d, .row e' ei'.size (n + m) jg)]) [(id, .gone)] = zb7 g [(d, .row e' ei'.size (n + m) jg), (id, .gone)] := by
                   funext k
                   simp only [zb7, za2]
                   by_cases k1 : d = k
                   · subst k1
                     simp [za3, zac (fun x => hdid x.symm : ¬ id = d)]
                   · by_cases k2 : id = k
                     · subst k2; simp [za3, zac hdid]
                     · simp [zac k1, zac k2]
                 rw [<- e2]
                 exact this
               have none0 : ∀ ad, n = 0 -> a.eval x = .slice ad 0 0 -> Adv P base M W nt f g c o a w (.sl d ei'.size 0 (L2 std Nat.add n m)) [(d, .row e' ei'.size (L2 std Nat.add n m) jg), (id, .gone)] [] := by
                 intro ad hn0 hu K Q hK
                 have e3 : L2 std Nat.add n m = m := by show n + m = m; omega
                 rw [e3] at hK
                 have e4 : n + m = m := by omega
                 rw [e4] at finish
                 refine fresh ad hu (by rw [Nat.zero_add]; rw [e4] at hb1; exact hb1) (by omega) jg (fun i j v hi hj r => ?_) K Q (fun a' w' hsim => hK a' w' (finish a' w' hsim))
                 rw [hjg]
                 have e5 : L2 std zb3 i n = false := by
                   show zb3 i n = false
                   cases e6 : zb3 i n with
                   | false => rfl
                   | true => have := zan e6; omega
                 have e6 : L2 std Nat.sub i n = i := by show i - n = i; omega
                 simp only [e5, e6]
                 exact zba r _
               have main : Adv P base M W nt f g c o a w (.sl d ei'.size 0 (L2 std Nat.add n m)) [(d, .row e' ei'.size (L2 std Nat.add n m) jg), (id, .gone)] [] := by
                 generalize hu : a.eval x = u at hs
                 cases hs with
                 | slv _ _ ad hμ => exact none0 ad rfl hu
                 | sl0 _ _ _ b z m' o' hμ ho => exact none0 _ rfl hu
                 | sl _ _ _ _ b z1 m' cap hμ hnc hz ho =>
                   intro K Q hK
                   unfold Oper.wp
                   rw [hu] at run
                   rw [Nat.zero_mul] at run
                   rw [Nat.zero_add] at hz ho
                   obtain ⟨hm', C, tt, fr, hh, hcs, hf, hle, hrow⟩ := h.obs id _ _ hg hμ
                   subst hm'
                   obtain ⟨hblt, hbb⟩ := h.own id b _ hμ
                   have hnD := (h.kd id b _ _ hμ hg (by simp)).2 hic
                   by_cases hroom : n + m <= cap
                   ·
                     have hfit : n * ei'.size + news.length <= C.size := by
                       rw [n1, <- Nat.add_mul, hcs]
                       exact Nat.le_trans (Nat.mul_le_mul_right _ hroom) hz
                     have h1news : ∀ u ∈ news, one u := by
                       intro u hu'
                       obtain ⟨q, hq⟩ := List.getElem?_of_mem hu'
                       have hql : q < m * ei'.size := by rw [<- n1]; exact (List.getElem?_eq_some_iff.1 hq).1
                       obtain ⟨v, v1, v2, _⟩ := n4 (q / ei'.size) (q % ei'.size) (Nat.div_lt_of_lt_mul (by rw [Nat.mul_comm]; exact hql)) (Nat.mod_lt _ (by omega))
                       rw [show q / ei'.size * ei'.size + q % ei'.size = q by rw [Nat.mul_comm]; exact Nat.div_add_mod q _] at v1
                       rw [hq] at v1; cases v1; exact v2
                     have hst := zcw P b (n * ei'.size) tt fr news 0 C w hh (by rw [hcs]; exact hf.1) (by omega) h1news
                     rw [Nat.add_zero] at hst
                     have hr := zcc (P := P) w t t' o.type e' ei' ok1 hni hei' (some ⟨b, 0, none⟩) n cap (a.eval y) m news n2 n3 hroom (w' := w.setRow b (zb0 C (n * ei'.size) news)) (fun ad had => by
                       cases had
                       rw [zbb, Nat.zero_add]
                       exact hst) (fun hx => by cases hx)
                     rw [run _ _ hr]
                     have hfree := h.goneFree hμ hg (by simp)
                     have hgone := h.gone hg
                     have hd2 : zb7 g [(id, .gone)] d = none := by simp [zb7, za2, zac (fun x => hdid x.symm : ¬ id = d), hnew]
                     have had := hgone.adopt (d := d) (zww (hd _ hdst) h.ntb) hd2 (zj4 (hd _ hdst) h.ntb) (b := b) (z := z1) (m := n + m) hblt hbb hnD hfree (ob := .row e' ei'.size (n + m) jg) (by simp) (zb0 C (n * ei'.size) news) (fun hD => by
                       refine ⟨rfl, _, tt, fr, setRow_heap w b C _ tt fr hh, by rw [zaq, hcs], ⟨hf.1, hf.2.1, zbn hf.2.2.1 h1news, hf.2.2.2⟩, Nat.le_trans (Nat.mul_le_mul_right _ hroom) hz, ?_⟩
                       rw [hjg]
                       refine zoe (C := fun k => (zb0 C (n * ei'.size) news)[k]?) (fun i j hi hj => ?_) (fun i j hi hj => ?_)
                       · obtain ⟨v, v1, v2, v3⟩ := hrow i j (by omega) hj
                         have hlt := (Array.getElem?_eq_some_iff.1 v1).1
                         refine ⟨v, ?_, v2, v3.mono hD (fun _ h => h) (fun _ _ h => h)⟩
                         rw [zaf _ _ _ _ hlt, if_neg]
                         · exact v1
                         · have h3 : (i + 1) * ei'.size <= n * ei'.size := Nat.mul_le_mul_right _ hi
                           rw [Nat.add_mul] at h3
                           omega
                       · obtain ⟨v, v1, v2, v3⟩ := n4 i j hi hj
                         have hlt := (List.getElem?_eq_some_iff.1 v1).1
                         refine ⟨v, ?_, v2, v3.mono hD (fun _ h => h) (fun _ _ h => h)⟩
                         rw [zaf _ _ _ _ (by omega), if_pos ⟨by omega, by omega⟩, Nat.add_sub_cancel_left]
                         exact v1)
                     have hput := had.put hd (u := .slice (some ⟨b, 0, none⟩) (n + m) cap) (v := .sl d ei'.size 0 (n + m)) (by
                       have := R.sl (h := (w.setRow b (zb0 C (n * ei'.size) news)).heap) (D := D) (μ := fun i => if i = d then some (some (b, z1, n + m)) else μ i) d ei'.size 0 (n + m) b z1 (n + m) cap (by simp) hroom (by simpa using hz) (by omega)
                       simpa using this)
                     have e2 : zb7 (zb7 g [(id, .gone)]) [(d, .row e' ei'.size (n + m) jg)] = zb7 g [(d, .row e' ei'.size (n + m) jg), (id, .gone)] := by
                       funext k
                       simp only [zb7, za2]
                       by_cases k1 : d = k
                       · subst k1; simp [za3]
                       · by_cases k2 : id = k
                         · subst k2; simp [za3, zac hdid]
                         · simp [zac k1, zac k2]
                     rw [e2] at hput
                     exact hK _ _ ⟨D, (fun i => if i = d then some (some (b, z1, n + m)) else μ i), by rw [zdk]; exact hput⟩
                   ·
                     have hg0 : cap < n + m := by omega
                     obtain ⟨olds, o1, o2, o3⟩ := zex (P := P) (w := w) ei'.size n b 0 cap (fun i j => C.getD (i * ei'.size + j) undef) (fun i j hi hj => by
                       obtain ⟨v, v1, _⟩ := hrow i j (by omega) hj
                       rw [zao hh, Nat.zero_add]; exact getD_some (Array.getElem?_eq_some_iff.1 v1).1)
                     have hr := zbc (P := P) w t t' o.type e' ei' z ok1 hni hei' i3 (some ⟨b, 0, none⟩) n cap (a.eval y) m olds news o2 n2 n3 hg0 hb2 (growslice_fits hg0 hb1)
                     rw [run _ _ hr]
                     have hw : Sim base M W nt f g c a w.drew D μ := h.drew
                     obtain ⟨C2, hC2⟩ : ∃ C2, C2 = olds.toArray ++ news.toArray ++ Builtin.zeroCells z.cells (grownCap w (n + m) cap e' - (n + m)) := ⟨_, rfl⟩
                     have hge := grownCap_ge w (n + m) cap e'
                     have hCs : C2.size = grownCap w (n + m) cap e' * ei'.size := by
                       rw [hC2]
                       simp only [Array.size_append, size_zeroCells, List.size_toArray, n1, o1, hzs]
                       rw [<- Nat.add_mul, <- Nat.add_mul]
                       congr 1
                       omega
                     rw [<- hC2]
                     have hle2 : (n + m) * ei'.size <= C2.size := by rw [hCs]; exact Nat.mul_le_mul_right _ hge
                     have hnew' := hw.new (hd _ hdst) hnew (.row e' ei'.size (n + m) jg) C2 e' (n + m) (by simp) (zfv hw hle2 (ze5 hC2 (zc6 hsp o1 (fun i j hi hj => by
                         obtain ⟨v, v1, v2, _⟩ := hrow i j (by omega) hj
                         have hv1 := getD_some (Array.getElem?_eq_some_iff.1 v1).1
                         rw [hv1] at v1; cases v1
                         exact ⟨_, o3 i j hi hj, v2⟩)) (zc6 hsp n1 (fun i j hi hj => by obtain ⟨v, v1, v2, _⟩ := n4 i j hi hj; exact ⟨v, v1, v2⟩)) (zc6 hsp (by simp [size_zeroCells, hzs]) (fun i j hi hj => ⟨_, zdw hzs hi hj, i4 _ _ (getD_some (by omega))⟩))) (by
                       rw [hjg]
                       refine zoe (C := fun k => C2[k]?) (fun i j hi hj => ?_) (fun i j hi hj => ?_)
                       · obtain ⟨v, v1, v2, v3⟩ := hrow i j (by omega) hj
                         have hv1 := getD_some (Array.getElem?_eq_some_iff.1 v1).1
                         rw [hv1] at v1; cases v1
                         have h4 := o3 i j hi hj
                         have hlt := (List.getElem?_eq_some_iff.1 h4).1
                         refine ⟨_, ?_, v2, v3⟩
                         rw [hC2, Array.append_assoc]
                         rw [Array.getElem?_append_left (by simpa using hlt)]
                         simpa using h4
                       · obtain ⟨v, v1, v2, v3⟩ := n4 i j hi hj
                         have hlt := (List.getElem?_eq_some_iff.1 v1).1
                         refine ⟨v, ?_, v2, v3⟩
                         rw [hC2, Array.append_assoc]
                         rw [Array.getElem?_append_right (by simp [o1]), Array.getElem?_append_left (by simp [o1]; omega)]
                         simp [o1, v1]))
                     refine hK _ _ (finish _ _ ⟨_, _, hnew'.put hd ?_⟩)
                     have := R.sl (h := (w.drew.alloc (.cells C2 e')).heap) (D := D) (μ := fun id => if id = d then some (some (w.drew.heap.size, C2.size, n + m)) else μ id) d ei'.size 0 (n + m) w.heap.size C2.size (n + m) (grownCap w (n + m) cap e') (by simp) hge (by rw [hCs]; simp) (by omega)
                     simpa using this
               rw [hjg] at main
               exact main
           · rename_i ty cs hsz hic hg
             have hic := hice _ hic
             have hg := hob _ _ hg
             obtain rfl := za1 hsz
             split
             rotate_left
             · trivial
             rename_i k1 k2 k3
             have k1 := zb2 k1
             have k3 := zan k3
             rw [zai] at k1
             obtain rfl : e' = ty := (za1 k2).symm
             intro hb
             have hb' : (n + m) * ei'.bytes <= 140737488355328 /\ n + m <= 9223372036854775807 := by simpa [L3, std, zbx] using hb
             obtain ⟨hb1, hb2⟩ := hb'
             rw [hsrc0]
             have hdid : d ≠ id := by rintro rfl; rw [hnew] at hg; cases hg
             obtain ⟨ncs, hncs⟩ : ∃ ncs, ncs = zb9 (zcs cs (n * ei'.size)) (zln (zy6 src ei'.size) 0 (m * ei'.size)) := ⟨_, rfl⟩
             have hnl : ncs.length = (n + m) * ei'.size := by
               rw [hncs, zae, zb6, List.length_append, List.length_take, zgj, Nat.add_mul]
               omega
             have hleft : ∀ q, q < n * ei'.size -> ncs[q]? = cs[q]? := by
               intro q hq
               rw [hncs, zae, zb6, List.getElem?_append_left (by rw [List.length_take]; omega), List.getElem?_take, if_pos hq]
             have hright : ∀ q x, n * ei'.size <= q -> ncs[q]? = some x -> q - n * ei'.size < m * ei'.size /\ x = src ((q - n * ei'.size) / ei'.size) ((q - n * ei'.size) % ei'.size) := by
               intro q x hq hx
               have hlt := (List.getElem?_eq_some_iff.1 hx).1
               rw [hnl, Nat.add_mul] at hlt
               rw [hncs, zae, zb6, List.getElem?_append_right (by rw [List.length_take]; omega), List.length_take, Nat.min_eq_left k1, zeg, if_pos (by omega), yh8 _ _ _ (by omega), Nat.zero_add] at hx
               cases hx
               exact ⟨by omega, rfl⟩
             have hnews : ∀ q, q < m * ei'.size -> ∃ v, news[q]? = some v /\ one v /\ R w.heap D zar (src (q / ei'.size) (q % ei'.size)) v := by
               intro q hq
               obtain ⟨v, v1, v2, v3⟩ := n4 (q / ei'.size) (q % ei'.size) (Nat.div_lt_of_lt_mul (by rw [Nat.mul_comm]; exact hq)) (Nat.mod_lt _ (by omega))
               rw [show q / ei'.size * ei'.size + q % ei'.size = q by rw [Nat.mul_comm]; exact Nat.div_add_mod q _] at v1
               exact ⟨v, v1, v2, v3⟩
             have finish : ∀ a' w', zgq base M W nt (zjq f o.dst (.sl d ei'.size 0 (n + m))) (zb7 g [(d, .spr e' ncs)]) c a' w' -> zgq base M W nt (zjq f o.dst (.sl d ei'.size 0 (n + m))) (zb7 g [(d, .spr e' ncs), (id, .gone)]) (zhd c []) a' w' := by
               rintro a' w' ⟨D', μ', hsim⟩
               have hid : zb7 g [(d, .spr e' ncs)] id = some (.spr e' cs) := by
                 simp [zb7, za2, zac hdid, hg]
               have := hsim.gone hid
               refine ⟨D', μ', ?_⟩
               rw [zdk]
               have e2 : zb7 (zb7 g [(d, .spr e' ncs)]) [(id, .gone)] = zb7 g [(d, .spr e' ncs), (id, .gone)] := by
                 funext k
                 simp only [zb7, za2]
                 by_cases k1 : d = k
                 · subst k1
                   simp [za3, zac (fun x => hdid x.symm : ¬ id = d)]
                 · by_cases k2 : id = k
                   · subst k2; simp [za3, zac hdid]
                   · simp [zac k1, zac k2]
               rw [<- e2]
               exact this
             have main : Adv P base M W nt f g c o a w (.sl d ei'.size 0 (n + m)) [(d, .spr e' ncs), (id, .gone)] [] := by
               generalize hu : a.eval x = u at hs
               cases hs with
               | slv _ _ ad hμ => exact absurd k3 (Nat.lt_irrefl _)
               | sl0 _ _ _ b z m' o' hμ ho => exact absurd k3 (Nat.lt_irrefl _)
               | sl _ _ _ _ b z1 m' cap hμ hnc hz ho =>
                 intro K Q hK
                 unfold Oper.wp
                 rw [hu] at run
                 rw [Nat.zero_mul] at run
                 rw [Nat.zero_add] at hz ho
                 obtain ⟨C, tt, fr, hh, hcs, hf, hlz, hrow⟩ := h.obs id _ _ hg hμ
                 obtain ⟨hblt, hbb⟩ := h.own id b _ hμ
                 have hnD := (h.kd id b _ _ hμ hg (by simp)).2 hic
                 by_cases hroom : n + m <= cap
                 ·
                   have hfit : n * ei'.size + news.length <= C.size := by
                     rw [n1, <- Nat.add_mul, hcs]
                     exact Nat.le_trans (Nat.mul_le_mul_right _ hroom) hz
                   have h1news : ∀ u ∈ news, one u := by
                     intro u hu'
                     obtain ⟨q, hq⟩ := List.getElem?_of_mem hu'
                     have hql : q < m * ei'.size := by rw [<- n1]; exact (List.getElem?_eq_some_iff.1 hq).1
                     obtain ⟨v, v1, v2, _⟩ := hnews q hql
                     rw [hq] at v1; cases v1; exact v2
                   have hst := zcw P b (n * ei'.size) tt fr news 0 C w hh (by rw [hcs]; exact hf.1) (by omega) h1news
                   rw [Nat.add_zero] at hst
                   have hr := zcc (P := P) w t t' o.type e' ei' ok1 hni hei' (some ⟨b, 0, none⟩) n cap (a.eval y) m news n2 n3 hroom (w' := w.setRow b (zb0 C (n * ei'.size) news)) (fun ad had => by
                     cases had
                     rw [zbb, Nat.zero_add]
                     exact hst) (fun hx => by cases hx)
                   rw [run _ _ hr]
                   have hfree := h.goneFree hμ hg (by simp)
                   have hgone := h.gone hg
                   have hd2 : zb7 g [(id, .gone)] d = none := by simp [zb7, za2, zac (fun x => hdid x.symm : ¬ id = d), hnew]
                   have had := hgone.adopt (d := d) (zww (hd _ hdst) h.ntb) hd2 (zj4 (hd _ hdst) h.ntb) (b := b) (z := z1) (m := n + m) hblt hbb hnD hfree (ob := .spr e' ncs) (by simp) (zb0 C (n * ei'.size) news) (fun hD => by
                     refine ⟨_, tt, fr, setRow_heap w b C _ tt fr hh, by rw [zaq, hcs], hf, by rw [hnl]; exact Nat.le_trans (Nat.mul_le_mul_right _ hroom) hz, fun q x hx => ?_⟩
                     by_cases hq : q < n * ei'.size
                     · rw [hleft q hq] at hx
                       obtain ⟨v, v1, v2, v3⟩ := hrow q x hx
                       have hlt := (Array.getElem?_eq_some_iff.1 v1).1
                       refine ⟨v, ?_, v2, v3.mono hD (fun _ h => h) (fun _ _ h => h)⟩
                       rw [zaf _ _ _ _ hlt, if_neg (by omega)]
                       exact v1
                     · obtain ⟨q1, rfl⟩ := hright q x (by omega) hx
                       obtain ⟨v, v1, v2, v3⟩ := hnews _ q1
                       refine ⟨v, ?_, v2, v3.mono hD (fun _ h => h) (fun _ _ h => by cases h)⟩
                       rw [zaf _ _ _ _ (by rw [n1] at hfit; omega), if_pos ⟨by omega, by rw [n1]; omega⟩]
                       exact v1)
                   have hput := had.put hd (u := .slice (some ⟨b, 0, none⟩) (n + m) cap) (v := .sl d ei'.size 0 (n + m)) (by
                     have := R.sl (h := (w.setRow b (zb0 C (n * ei'.size) news)).heap) (D := D) (μ := fun i => if i = d then some (some (b, z1, n + m)) else μ i) d ei'.size 0 (n + m) b z1 (n + m) cap (by simp) hroom (by simpa using hz) (by omega)
                     simpa using this)
                   have e2 : zb7 (zb7 g [(id, .gone)]) [(d, .spr e' ncs)] = zb7 g [(d, .spr e' ncs), (id, .gone)] := by
                     funext k
                     simp only [zb7, za2]
                     by_cases k1 : d = k
                     · subst k1; simp [za3]
                     · by_cases k2 : id = k
                       · subst k2; simp [za3, zac hdid]
                       · simp [zac k1, zac k2]
                   rw [e2] at hput
                   exact hK _ _ ⟨D, (fun i => if i = d then some (some (b, z1, n + m)) else μ i), by rw [zdk]; exact hput⟩
                 ·
                   have hg0 : cap < n + m := by omega
                   have hone : ∀ i j, i < n -> j < ei'.size -> i * ei'.size + j < n * ei'.size := by
                     intro i j hi hj
                     have h3 : (i + 1) * ei'.size <= n * ei'.size := Nat.mul_le_mul_right _ hi
                     rw [Nat.add_mul] at h3
                     omega
                   obtain ⟨olds, o1, o2, o3⟩ := zex (P := P) (w := w) ei'.size n b 0 cap (fun i j => C.getD (i * ei'.size + j) undef) (fun i j hi hj => by
                     have hq := hone i j hi hj
                     obtain ⟨v, v1, _⟩ := hrow (i * ei'.size + j) _ (List.getElem?_eq_getElem (show i * ei'.size + j < cs.length by omega))
                     rw [zao hh, Nat.zero_add]; exact getD_some (Array.getElem?_eq_some_iff.1 v1).1)
                   have hr := zbc (P := P) w t t' o.type e' ei' z ok1 hni hei' i3 (some ⟨b, 0, none⟩) n cap (a.eval y) m olds news o2 n2 n3 hg0 hb2 (growslice_fits hg0 hb1)
                   rw [run _ _ hr]
                   have hw : Sim base M W nt f g c a w.drew D μ := h.drew
                   obtain ⟨C2, hC2⟩ : ∃ C2, C2 = olds.toArray ++ news.toArray ++ Builtin.zeroCells z.cells (grownCap w (n + m) cap e' - (n + m)) := ⟨_, rfl⟩
                   have hge := grownCap_ge w (n + m) cap e'
                   have hCs : C2.size = grownCap w (n + m) cap e' * ei'.size := by
                     rw [hC2]
                     simp only [Array.size_append, size_zeroCells, List.size_toArray, n1, o1, hzs]
                     rw [<- Nat.add_mul, <- Nat.add_mul]
                     congr 1
                     omega
                   rw [<- hC2]
                   have hle2 : (n + m) * ei'.size <= C2.size := by rw [hCs]; exact Nat.mul_le_mul_right _ hge
                   have hDal : ∀ k, D k -> (w.drew.alloc (.cells C2 e')).heap[k]? = w.heap[k]? := fun k hk => Below.heap_alloc _ _ _ (h.dlt k hk)
                   have hnew' := hw.new (hd _ hdst) hnew (.spr e' ncs) C2 e' (n + m) (by simp) (by
                     refine ⟨C2, e', _, heap_alloc_new _ _, rfl, ⟨zer _, rfl⟩, by rw [hnl]; exact hle2, fun q x hx => ?_⟩
                     by_cases hq : q < n * ei'.size
                     · rw [hleft q hq] at hx
                       obtain ⟨v, v1, v2, v3⟩ := hrow q x hx
                       have hv1 := getD_some (Array.getElem?_eq_some_iff.1 v1).1
                       rw [hv1] at v1; cases v1
                       have h4 := o3 (q / ei'.size) (q % ei'.size) (Nat.div_lt_of_lt_mul (by rw [Nat.mul_comm]; exact hq)) (Nat.mod_lt _ (by omega))
                       rw [show q / ei'.size * ei'.size + q % ei'.size = q by rw [Nat.mul_comm]; exact Nat.div_add_mod q _] at h4
                       have hlt := (List.getElem?_eq_some_iff.1 h4).1
                       refine ⟨_, ?_, v2, v3.mono hDal (fun _ h => h) (fun _ _ h => h)⟩
                       rw [hC2, Array.append_assoc]
                       rw [Array.getElem?_append_left (by simpa using hlt)]
                       simpa using h4
                     · obtain ⟨q1, rfl⟩ := hright q x (by omega) hx
                       obtain ⟨v, v1, v2, v3⟩ := hnews _ q1
                       have hlt := (List.getElem?_eq_some_iff.1 v1).1
                       refine ⟨v, ?_, v2, v3.mono hDal (fun _ h => h) (fun _ _ h => by cases h)⟩
                       rw [hC2, Array.append_assoc]
                       rw [Array.getElem?_append_right (by simp [o1]; omega), Array.getElem?_append_left (by simp [o1]; omega)]
                       simp [o1, v1])
                   refine hK _ _ (finish _ _ ⟨_, _, hnew'.put hd ?_⟩)
                   have := R.sl (h := (w.drew.alloc (.cells C2 e')).heap) (D := D) (μ := fun id => if id = d then some (some (w.drew.heap.size, C2.size, n + m)) else μ id) d ei'.size 0 (n + m) w.heap.size C2.size (n + m) (grownCap w (n + m) cap e') (by simp) hge (by rw [hCs]; simp) (by omega)
                   simpa using this
             rw [hncs] at main
             exact main
           · trivial
         · trivial
       · trivial
     · trivial
   · trivial
end
end Sy
end Go.Proofs.Ytogomcfgfnlclaa
namespace Go.Proofs.Ytogomcfgfnlclaa
namespace Sy
open Go Go.RowKit
set_option linter.unusedSimpArgs false
set_option linter.unusedVariables false
set_option linter.unusedSectionVars false
section
variable {P : Program} {T : TT} {base : Nat} {M : Two} {W : World} {nt : Nat} {f : Nat -> Option AV} {g : Nat -> Option Ob} {c : Nat -> Bool} {a : Act} {w : World} {D : Nat -> Prop} {μ : Mu} {o : Oper}
theorem Sim.trash (h : Sim base M W nt f g c a w D μ) {id b : Nat} {z : Nat × Nat} {ob : Ob} (hμ : μ id = some (some (b, z))) (hg : g id = some ob) (hne : ob ≠ .gone) (hc : c id = false) {w' : World}
   (hos : w'.os = w.os) (htape : w'.tape = w.tape) (hout : w'.output = w.output) (hsz : w'.heap.size = w.heap.size) (hb : ∀ k, k ≠ b -> w'.heap[k]? = w.heap[k]?) : Sim base M W nt f (zb7 g [(id, .gone)]) c a w' D μ := by
 have hnD : ¬ D b := (h.kd id b z ob hμ hg hne).2 hc
 have hbase := (h.own id b z hμ).2
 have hD : ∀ k, D k -> w'.heap[k]? = w.heap[k]? := fun k hk => hb k (by rintro rfl; exact hnD hk)
 have hnt : zau ob = false := by
   cases e : zau ob with
   | false => rfl
   | true => exact (yp6 e (h.obs id ob _ hg hμ)).elim
 have hgp := zi2 (g := g) (o := .gone) (h.tbs id _ hg).1 rfl (fun x hx => by rw [hg] at hx; cases hx; exact hnt)
 have h' := h.gone hg hnt
 exact {
   os := hos.trans h.os, tape := htape.trans h.tape, output := hout.trans h.output
   size := by rw [hsz]; exact h.size
   bs := by rw [hsz]; exact h.bs
   old := fun k h1 h2 => by
     rw [hb k (by
       rintro rfl
       rcases hbase with h3 | h3
       · omega
       · exact h2 h3)]
     exact h.old k h1 h2
   defers := h.defers, tmps := h.tmps
   slots := fun s v hv => (h.slots s v hv).mono hD (fun _ h => h) (fun _ _ h => h)
   dlt := fun k hk => by rw [hsz]; exact h.dlt k hk
   low := h.low
   domx := h'.domx
   obsx := fun i o' x h1 h2 => by
     by_cases e : i = id
     · rw [hgp, if_pos e] at h1; cases h1
       cases x <;> exact trivial
     · have h1' := h1
       rw [hgp, if_neg e] at h1
       refine (h.obsx i o' x h1 h2).mono hD (fun _ h => h) (fun _ _ h => h) (fun b' z' hx hne2 => hb b' ?_)
       rintro rfl
       subst hx
       exact e (h.injx i id b' z' z o' ob h2 hμ h1 (h.tbs.up hg) hne2 hne)
   injx := h'.injx
   own := fun i b1 z1 h1 => by rw [hsz]; exact h.own i b1 z1 h1
   kdx := h'.kdx
   icyx := h'.icyx
   ntb := h.ntb
   tbs := h'.tbs
   icm := h'.icm
   mems := h'.mems
   pin := h.pin
   gl := h.gl }
theorem zsl (w : World) (p : Addr) (n : Nat) : (w.freeze p n).heap.size = w.heap.size := by
 unfold World.freeze; split <;> simp
theorem zqm (w : World) (p : Addr) (n : Nat) {k : Nat} (hk : k ≠ p.block) : (w.freeze p n).heap[k]? = w.heap[k]? := by
 unfold World.freeze
 split
 · rfl
 · simp only [Array.getElem?_modify]
   rw [if_neg (fun e => hk e.symm)]
theorem zsm (w : World) (p : Addr) (n : Nat) : (w.freeze p n).os = w.os /\ (w.freeze p n).tape = w.tape /\ (w.freeze p n).output = w.output := by
 unfold World.freeze; split <;> exact ⟨rfl, rfl, rfl⟩
variable (h : Sim base M W nt f g c a w D μ) (hd : ∀ d, o.dst = some d -> d < nt)
include h hd
theorem zvz {x : Operand} {ts : Array TypeId} (e : o.op = .call { callee := .builtin .unsafeSliceData, args := #[x], argTypes := ts }) {vals : List AV} (hv : Ops w.heap D μ a [x] vals) : zbw P base M W nt f g c o a w (zqw std vals) := by
 unfold zqw
 split
 · rename_i id n
   obtain ⟨hx, _⟩ := hv
   intro hb
   have hn : 0 < n := zan hb
   have run : ∀ u, (Builtin.unsafeSliceData_ ts o.type #[a.eval x]).run P w = .ok u w -> (execOp a.eval o).run P w = .ok (.value u) w := by
     intro u hu
     unfold execOp
     rw [e]
     simp [resolve, invoke, builtin, hu]
   generalize a.eval x = u at hx run
   cases hx with
   | slv => omega
   | sl0 => omega
   | sl _ _ _ _ b z m cap hm hnc hz ho =>
     have := R.eref (h := w.heap) (D := D) (μ := μ) id 1 0 0 b z m hm (by omega)
     rw [show 0 * 1 + 0 = 0 * 1 by omega] at this
     exact za0 h hd (run _ (Lib.run_unsafeSliceData_row w ts o.type _ n cap (by omega))) this
 · trivial
theorem zzf (hT : zbd P T) {x y : Operand} {t t2 : Nat} {ts : Array TypeId} (hts : ts.toList = [t, t2]) (e : o.op = .call { callee := .builtin .unsafeString, args := #[x, y], argTypes := ts }) {vals : List AV} (hv : Ops w.heap D μ a [x, y] vals)
   {ob : Nat -> Option Ob} (hob : ∀ id z, ob id = some z -> g id = some z) {ice : Nat -> Bool} (hice : ∀ id, ice id = false -> c id = false) : zbw P base M W nt f g c o a w (zsz T std t ob ice vals) := by
 obtain rfl : ts = #[t, t2] := by apply Array.ext'; simpa using hts
 unfold zsz
 split
 · rename_i id n
   obtain ⟨hx, hy, _⟩ := hv
   split
   · rename_i ty m get pi hic hg hpi
     have hg := hob _ _ hg
     have hic := hice _ hic
     split
     · rename_i el hpt
       split
       · rename_i hty hu8
         obtain rfl := za1 hty
         rintro ⟨h0, hm, h63, hby⟩
         have hp := (hT t pi hpi).ptf _ hpt
         have hu := zh7 hT hu8
         obtain ⟨ei, hei⟩ : ∃ ei, T.find ty = some ei := by
           unfold ylh at hu8
           split at hu8
           · rename_i i hi; exact ⟨i, hi⟩
           · cases hu8
         have hag : ei.isAgg = false := by rw [(hT ty ei hei).agg, hu]
         have hc : P.cellsOf ty = 1 := by
           obtain ⟨j, zv, hj, hj2, _⟩ := (hT ty ei hei).info
           rw [Program.cellsOf, hj]; simpa [(hT ty ei hei).single hag] using hj2
         have hyv := hy.inv_int
         have run : ∀ u w', (Builtin.unsafeString_ #[t, t2] o.type #[a.eval x, a.eval y]).run P w = .ok u w' -> (execOp a.eval o).run P w = .ok (.value u) w' := by
           intro u w' hu
           unfold execOp
           rw [e]
           simp [resolve, invoke, builtin, hu]
         rw [hyv] at run
         generalize a.eval x = u at hx run
         cases hx with
         | eref _ _ _ _ b z mm hμ hi =>
           obtain ⟨hmm, C, t', fr, hh, hcs, ⟨_, rfl, _⟩, hle, hrow⟩ := h.obs id _ _ hg hμ
           obtain ⟨l, hl⟩ : ∃ l, l = zay n.toNat (fun i => (get i 0).toI) := ⟨_, rfl⟩
           have hlen : l.length = n.toNat := by rw [hl]; simp [zay]
           have hcell : ∀ j q, l[j]? = some q -> w.cell? ((⟨b, 0, none⟩ : Addr).add j) = some (.int .u8 q.toNat) := by
             intro j q hq
             have hj : j < n.toNat := by rw [<- hlen]; exact (List.getElem?_eq_some_iff.1 hq).1
             obtain ⟨v, v1, _, v3⟩ := hrow j 0 (by omega) (by omega)
             obtain ⟨xx, x1, x2, x3⟩ := hby j hj
             rw [x1] at v3
             rw [v3.inv_int] at v1
             rw [zbb, zel, zao hh]
             rw [hl] at hq
             simp [zay, hj, x1, AV.toI] at hq
             subst hq
             have : (UInt8.ofNat xx.toNat).toNat = xx.toNat := by
               rw [UInt8.toNat_ofNat']; omega
             rw [this, Nat.zero_add]
             have e1 : ((xx.toNat : Nat) : Int) = xx := by omega
             rw [e1]
             simpa using v1
           have hrun := Lib.run_unsafeString_row (P := P) w t t2 o.type _ hp hc b C.size (by simp [World.shape?, hh]) l (by intro h; rw [h] at hlen; simp at hlen; omega) (by rw [hlen]; omega) (by rw [hlen]; omega) hcell
           have hn : ((l.length : Nat) : Int) = n := by rw [hlen]; omega
           rw [hn] at hrun
           have hdef : (Builtin.unsafeString_ #[t, t2] o.type #[.pointer (some ⟨b, 0 * 1 + 0, none⟩), .int .i64 n]).run P w = .ok (.string ⟨l.toArray⟩) (w.freeze ⟨b, 0, none⟩ l.length) := by
             exact hrun
           have fr := zsm w ⟨b, 0, none⟩ l.length
           intro K Q hK
           unfold Oper.wp
           rw [run _ _ hdef]
           refine hK _ _ ⟨_, _, (h.trash hμ hg (by simp) hic fr.1 fr.2.1 fr.2.2 (zsl _ _ _) (fun k hk => zqm _ _ _ hk)).put hd (.str _ _ ?_)⟩
           rw [hl]; rfl
       · trivial
     · trivial
   · trivial
 · trivial
end
end Sy
end Go.Proofs.Ytogomcfgfnlclaa
namespace Go.Proofs.Ytogomcfgfnlclaa
namespace Sy
open Go Go.RowKit
set_option linter.unusedSimpArgs false
set_option linter.unusedVariables false
theorem zz5 {h : Array Obj} {D : Nat -> Prop} {μ : Mu} (sz : Nat) {x : AV} {v : Value} (r : R h D μ x v) (y : AV) : R h D μ (yi5 std sz true x y) v := by
 unfold yi5
 split
 · exact zbq r y
 · exact r
theorem zvs {h : Array Obj} {D : Nat -> Prop} {μ : Mu} (sz : Nat) {y : AV} {v : Value} (r : R h D μ y v) (x : AV) : R h D μ (yi5 std sz false x y) v := by
 unfold yi5
 split
 · exact zba r x
 · exact r
section
variable {P : Program} {T : TT} {base : Nat} {M : Two} {W : World} {nt : Nat} {f : Nat -> Option AV} {g : Nat -> Option Ob} {c : Nat -> Bool} {a : Act} {w : World} {D : Nat -> Prop} {μ : Mu} {o : Oper}
variable (h : Sim base M W nt f g c a w D μ) (hd : ∀ d, o.dst = some d -> d < nt)
include h hd
theorem zwa (hT : zbd P T) {t : TypeId} {x y : Operand} (e : o.op = .index t x y) {vals : List AV} (hv : Ops w.heap D μ a [x, y] vals) : zbw P base M W nt f g c o a w (ydn T std t vals) := by
 match vals, hv with
 | [v, v'], ⟨hx, hy, _⟩ =>
   unfold ydn
   split
   · rename_i l k i he
     simp only [List.cons.injEq, and_true] at he
     obtain ⟨rfl, rfl⟩ := he
     split
     · rename_i sz ag ze eqf p1 p2 p3 hi
       have ok : P.underlying t = some .string := (hT t _ hi).k
       intro hb
       obtain ⟨h0, h1⟩ := zdy hb
       obtain ⟨s, e1, rfl⟩ := hx.inv_str
       have e2 := hy.inv_int
       have hlt : i.toNat < s.size := by simp [std, slen] at h1; have : (s.data.size : Int) = s.size := rfl; omega
       refine za0 h hd (u := .int .u8 (s[i.toNat]'hlt).toNat) ?_ ?_
       · unfold execOp
         rw [e]
         have : s[i.toNat]? = some (s[i.toNat]'hlt) := by simp [hlt]
         simp [e1, e2, Instr.index, asIntOf, run_underlying ok, h0, this]
       · have : L2 std zng s.data.toList i = ((s[i.toNat]'hlt).toNat : Int) := by
           have hlt' : i.toNat < s.data.size := hlt
           have h5 : s.data.toList[i.toNat]? = some (s[i.toNat]'hlt) := by
             rw [Array.getElem?_toList, Array.getElem?_eq_getElem hlt']; rfl
           simp only [L2, std, zng, List.getD, h5, Option.getD_some]
         rw [this]; exact .int _ _
     · trivial
   · rename_i cs k i he
     simp only [List.cons.injEq, and_true] at he
     obtain ⟨rfl, rfl⟩ := he
     split
     · rename_i sz ag ze n e' eqf p1 p2 p3 hi
       have ok := (hT t _ hi).k
       obtain ⟨ok1, ok2⟩ := ok
       obtain ⟨ei', hei', hes⟩ := Option.map_eq_some_iff.1 ok2
       split
       · rename_i ei hlen hei
         have hlen := za1 hlen
         rw [zai] at hlen
         split
         · rename_i hag hs1
           have hs1 := za1 hs1
           intro hb
           obtain ⟨h0, h1⟩ := zdy hb
           have h1' : i < (n : Int) := h1
           obtain ⟨us, e1, o1, s1, hr⟩ := hx.inv_agg
           have e2 := hy.inv_int
           have hlt : i.toNat < n := by omega
           have hso : (sizeOf e').run P w = .ok 1 w := by simp [sizeOf, typeInfo, program, Sem.run, hei', hes]
           obtain ⟨u, hu, r⟩ := zfa (P := P) hT hei o1 ⟨s1, hr⟩ (i.toNat * 1) (by rw [hs1]; omega) (fun _ => hs1)
           rw [hag] at r
           have hg := zeq (cs := cs) (sz := 1) (n := n) (by omega) (i := i.toNat) (j := 0) hlt (by omega)
           have hl : zbl .dead cs (i.toNat * 1) = zii std cs 1 i.toNat 0 := by
             have h5 := zak .dead cs (i.toNat * 1) (by omega)
             rw [Nat.add_zero] at hg
             rw [h5] at hg
             exact Option.some.inj hg
           rw [hl] at r
           refine za0 h hd (u := u) ?_ r
           unfold execOp
           rw [e]
           rw [Nat.mul_one] at hu
           simp [e1, e2, Instr.index, asIntOf, run_underlying ok1, h0, h1', hso, hu]
         · trivial
       · trivial
     · trivial
   · trivial
theorem yfe (hT : zbd P T) {t : TypeId} {x : Operand} (e : o.op = .sliceToArrayPointer t x) {vals : List AV} (hv : Ops w.heap D μ a [x] vals)
   {ob : Nat -> Option Ob} (hob : ∀ id z, ob id = some z -> g id = some z) : zbw P base M W nt f g c o a w (yt9 T std t ob vals) := by
 match vals, hv with
 | [v], ⟨hx, _⟩ =>
   simp only [yt9]
   · split
     · rename_i sz ag ze m e' eqf p1 p2 p3 hi
       obtain ⟨ok1, -⟩ := (hT t _ hi).k
       split
       · rename_i n get him
         split
         · rename_i hm
           rw [zc7] at hm
           intro hb
           have hb : m <= n := by
             have hb : zbh m n = true := hb
             rw [zcr] at hb
             exact hb
           obtain ⟨l1, l2⟩ := zl2 h hob him hx (ids := zdj v) (fun _ h => h)
           have h' := h.freeze (zdj v) l2
           intro K Q hK
           unfold Oper.wp
           generalize hu : a.eval x = u at l1
           cases l1 with
           | lst0 => omega
           | lst _ _ _ b oo cap vs hD hc hv h1 hr =>
             have run : (execOp a.eval o).run P w = .ok (.value (.pointer (some ⟨b, oo, none⟩))) w := by
               unfold execOp
               rw [e]
               simp [hu, Instr.arrayAt, run_underlying ok1, show ¬ n < m by omega]
             rw [run]
             exact hK _ _ ⟨_, _, h'.put hd (.iptr m _ b oo (fun j => vs j 0) hD (fun j hj => by have := hv j 0 (by omega) (by omega); simpa using this) (fun j hj => h1 j 0 (by omega) (by omega)) (fun j hj => hr j 0 (by omega) (by omega)))⟩
         · trivial
       · trivial
     · trivial
theorem zzx (hT : zbd P T) {t t' : Nat} {x y : Operand} {ts : Array TypeId} (hts : ts.toList = [t, t']) (e : o.op = .call { callee := .builtin .copy, args := #[x, y], argTypes := ts }) {vals : List AV} (hv : Ops w.heap D μ a [x, y] vals)
   {ob : Nat -> Option Ob} (hob : ∀ id z, ob id = some z -> g id = some z) {ice : Nat -> Bool} (hice : ∀ id, ice id = false -> c id = false) :
   zbw P base M W nt f g c o a w (ydr T std t t' ob ice vals) := by
 obtain rfl : ts = #[t, t'] := by apply Array.ext'; simpa using hts
 unfold ydr
 split
 · rename_i id sz off n xv
   obtain ⟨hx, hy, _⟩ := hv
   split
   · rename_i sz0 ag ze e' esz eb eqf p1 p2 p3 hi
     obtain ⟨ok1, ok2⟩ := (hT t _ hi).k
     obtain ⟨ei', hei', hes⟩ := Option.map_eq_some_iff.1 ok2
     simp only [Prod.mk.injEq] at hes
     obtain ⟨hes1, hes2⟩ := hes
     subst hes1; subst hes2
     split
     · rename_i m src hsrc
       have c1 : zcj T t' = true := by cases hx : zcj T t' <;> simp_all
       have c2 : zbh 1 ei'.size = true := by cases hx : zbh 1 ei'.size <;> simp_all
       have c3 : (T.find e').isSome = true := by cases hx : (T.find e').isSome <;> simp_all
       rw [c1, c2, c3] at hsrc
       simp only [cond_true] at hsrc
       split
       · rename_i ty sz' k get hsz hic hg
         obtain rfl := za1 hsz
         have hg := hob _ _ hg
         have hic := hice _ hic
         split
         · rename_i hsz'
           obtain rfl := za1 hsz'
           intro hb
           have hb' : 0 < n /\ m <= n := by
             have hb : (zb3 0 n && zbh m n) = true := hb
             rw [Bool.and_eq_true, zc7, zcr] at hb
             exact hb
           obtain ⟨news, n1, n2, n3, n4⟩ := zf7 (P := P) h hob hsrc hy
           have run : ∀ u w', (Builtin.copy_ #[t, t'] o.type #[a.eval x, a.eval y]).run P w = .ok u w' -> (execOp a.eval o).run P w = .ok (.value u) w' := by
             intro u w' hu
             unfold execOp
             rw [e]
             simp [resolve, invoke, builtin, hu]
           generalize a.eval x = u at hx run
           cases hx with
           | slv => omega
           | sl0 => omega
           | sl _ _ _ _ b z mm cap hμ hn hz ho =>
             obtain ⟨hm, C, t0, fr, hh, hcs, hf, hle, hrow⟩ := h.obs id _ _ hg hμ
             subst hm
             have hmz : off * ei'.size + m * ei'.size <= C.size := by
               have h1 : (off + m) * ei'.size <= (off + cap) * ei'.size := Nat.mul_le_mul_right _ (by omega)
               rw [Nat.add_mul] at h1
               omega
             have h1n : ∀ v ∈ news, one v := (fun v hv => by
               obtain ⟨q, hq⟩ := List.getElem?_of_mem hv
               have hql : q < m * ei'.size := by rw [<- n1]; exact (List.getElem?_eq_some_iff.1 hq).1
               have h0 := zb2 c2
               obtain ⟨v', v1, v2, v3⟩ := n4 (q / ei'.size) (q % ei'.size) (Nat.div_lt_of_lt_mul (by rw [Nat.mul_comm]; exact hql)) (Nat.mod_lt _ (by omega))
               rw [show q / ei'.size * ei'.size + q % ei'.size = q by rw [Nat.mul_comm]; exact Nat.div_add_mod q ei'.size, hq] at v1
               cases v1
               exact v2)
             have hst := zcw P b (off * ei'.size) t0 fr news 0 C w hh (by rw [hcs]; exact hf.1) (by rw [n1]; omega) h1n
             simp only [Nat.add_zero] at hst
             have hso : (sizeOf e').run P w = .ok ei'.size w := by simp [sizeOf, typeInfo, program, Sem.run, hei']
             have hmin : Nat.min m n = m := Nat.min_eq_left hb'.2
             have hfc := n2 w rfl
             have hrun : (Builtin.copy_ #[t, t'] o.type #[.slice (some ⟨b, off * ei'.size, none⟩) n cap, a.eval y]).run P w = .ok (goInt m) (w.setRow b (zb0 C (off * ei'.size) news)) := by
               simp [Builtin.copy_, run_underlying ok1, n3, hmin, hso, hfc, hst]
             intro K Q hK
             unfold Oper.wp
             rw [run _ _ hrun]
             have h1 := h.write (C' := zb0 C (off * ei'.size) news) (ob' := .row ty ei'.size k (fun i j => yi5 std ei'.size (L3 std zdr off m i) (src (L2 std Nat.sub i off) j) (get i j))) hμ hg (by simp) (by simp) hic hh (fun hD => by
               refine ⟨rfl, _, t0, fr, setRow_heap w b C _ t0 fr hh, by rw [zaq, hcs], ⟨hf.1, hf.2.1, zbn hf.2.2.1 h1n, hf.2.2.2⟩, hle, fun i j hi' hj => ?_⟩
               obtain ⟨y0, y1, y2, y3⟩ := hrow i j hi' hj
               have hin : i * ei'.size + j < C.size := (Array.getElem?_eq_some_iff.1 y1).1
               rw [zaf _ _ _ _ hin]
               by_cases hseg : off <= i /\ i < off + m
               · have hB : L3 std zdr off m i = true := by
                   show (zbh off i && zb3 i (off + m)) = true
                   rw [Bool.and_eq_true, zc7, zcr]
                   exact hseg
                 obtain ⟨v, v1, v2, v3⟩ := n4 (i - off) j (by omega) hj
                 have hi1 : i * ei'.size = off * ei'.size + (i - off) * ei'.size := by rw [<- Nat.add_mul]; congr 1; omega
                 have hlt := (List.getElem?_eq_some_iff.1 v1).1
                 have rr : R (w.setRow b (zb0 C (off * ei'.size) news)).heap D zar (yi5 std ei'.size (L3 std zdr off m i) (src (L2 std Nat.sub i off) j) (get i j)) v := by
                   rw [hB]; exact zz5 _ (v3.mono hD (fun _ h => h) (fun _ _ h => h)) _
                 refine ⟨v, ?_, v2, rr⟩
                 rw [if_pos ⟨by omega, by omega⟩, show i * ei'.size + j - off * ei'.size = (i - off) * ei'.size + j by omega]
                 exact v1
               · have hB : L3 std zdr off m i = false := by
                   show (zbh off i && zb3 i (off + m)) = false
                   cases hq : (zbh off i && zb3 i (off + m)) with
                   | false => rfl
                   | true =>
                     rw [Bool.and_eq_true, zc7, zcr] at hq
                     exact absurd hq hseg
                 have rr : R (w.setRow b (zb0 C (off * ei'.size) news)).heap D zar (yi5 std ei'.size (L3 std zdr off m i) (src (L2 std Nat.sub i off) j) (get i j)) y0 := by
                   rw [hB]; exact zvs _ (y3.mono hD (fun _ h => h) (fun _ _ h => h)) _
                 refine ⟨y0, ?_, y2, rr⟩
                 rw [if_neg]
                 · exact y1
                 · rintro ⟨p1, p2⟩
                   rw [n1] at p2
                   apply hseg
                   constructor
                   · apply Nat.le_of_not_lt
                     intro hlt
                     have h3 : (i + 1) * ei'.size <= off * ei'.size := Nat.mul_le_mul_right _ hlt
                     rw [Nat.add_mul] at h3
                     omega
                   · apply Nat.lt_of_not_le
                     intro hge
                     have h3 : (off + m) * ei'.size <= i * ei'.size := Nat.mul_le_mul_right _ hge
                     rw [Nat.add_mul] at h3
                     omega)
             exact hK _ _ ⟨_, _, h1.put hd (.int _ _)⟩
         · trivial
       · trivial
     · trivial
   · trivial
 · trivial
end
end Sy
end Go.Proofs.Ytogomcfgfnlclaa
