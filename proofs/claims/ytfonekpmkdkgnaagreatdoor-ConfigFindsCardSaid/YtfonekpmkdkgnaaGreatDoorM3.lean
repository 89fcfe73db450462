/-The symbolic executor: slices whose capacity is told. The symbolic executor: maps whose entries are told one by one. The symbolic executor: calls; any operation; and what stands between these and the texts behind.-/
import Derived.Test.YtfonekpmkdkgnaaGreatDoorM2
namespace Go.Proofs.YtfonekpmkdkgnaaGreatDoor
namespace Sy
open Go Go.RowKit
set_option linter.unusedSimpArgs false
set_option linter.unusedVariables false
theorem zvd {h : Array Obj} {D : Nat -> Prop} {μ : Mu} {a : Act} {l : List Operand} {vals : List AV} (hv : Ops h D μ a l vals) : Ops h D μ a l (ygz vals) := by
 unfold ygz
 split
 · cases l with
   | nil => exact hv.elim
   | cons x l => exact ⟨hv.1.less, hv.2⟩
 · cases l with
   | nil => exact hv.elim
   | cons x l => exact ⟨hv.1.lessx, hv.2⟩
 · exact hv
theorem zuo {P : Program} {w : World} {a : Act} (isS : Bool) (len cap : Nat) {lo hi mx : Option Operand} {p q s : Option Int} (h1 : zf4 a lo p) (h2 : zf4 a hi q) (h3 : zf4 a mx s) (hm : mx.isSome = true -> hi.isSome = true)
   (l r k : Nat) (hl : (p.getD 0) = (l : Int)) (hr : (q.getD len) = (r : Int)) (hk : (s.getD cap) = (k : Int)) (hlr : l <= r) (hrc : r <= k) (hkc : k <= cap) :
   (Instr.sliceBounds isS len cap (lo.map a.eval) (hi.map a.eval) (mx.map a.eval)).run P w = .ok (l, r, k) w := by
 cases mx with
 | none =>
   cases s with
   | some _ => exact h3.elim
   | none =>
     obtain rfl : cap = k := by simp at hk; omega
     exact zdo isS len cap h1 h2 l r hl hr hlr hrc
 | some z =>
   cases s with
   | none => exact h3.elim
   | some s =>
   cases hi with
   | none => simp at hm
   | some y =>
   cases q with
   | none => exact h2.elim
   | some q =>
   obtain ⟨k1, e1⟩ := h3
   obtain ⟨k2, e2⟩ := h2
   simp at hk hr
   subst hk; subst hr
   unfold Instr.sliceBounds
   cases lo with
   | none =>
     cases p with
     | some _ => exact h1.elim
     | none =>
       obtain rfl : l = 0 := by simp at hl; omega
       simp [e1, e2, Instr.sliceBound, asIntOf, hkc, hrc]
   | some x =>
     cases p with
     | none => exact h1.elim
     | some p =>
       obtain ⟨k3, e3⟩ := h1
       simp at hl
       subst hl
       simp [e1, e2, e3, Instr.sliceBound, asIntOf, hkc, hrc, hlr]
theorem yf1 {h : Array Obj} {D : Nat -> Prop} {μ : Mu} {a : Act} {lo hi m : Option Operand} {vs : List AV} {p q s : Option Int} (e : ykf vs lo.isSome hi.isSome m.isSome = some (p, q, s)) (hv : Ops h D μ a (lo.toList ++ (hi.toList ++ m.toList)) vs) :
   zf4 a lo p /\ zf4 a hi q /\ zf4 a m s /\ (m.isSome = true -> hi.isSome = true) := by
 cases lo <;> cases hi <;> cases m <;> simp only [ykf, Option.isSome] at e <;> (try split at e) <;> (try cases e) <;> (try (rename_i he; simp at he; done)) <;> (try contradiction)
 · exact ⟨trivial, trivial, trivial, fun h => by cases h⟩
 · exact ⟨trivial, ⟨_, hv.1.inv_int⟩, trivial, fun h => by cases h⟩
 · exact ⟨trivial, ⟨_, hv.1.inv_int⟩, ⟨_, hv.2.1.inv_int⟩, fun _ => rfl⟩
 · exact ⟨⟨_, hv.1.inv_int⟩, trivial, trivial, fun h => by cases h⟩
 · exact ⟨⟨_, hv.1.inv_int⟩, ⟨_, hv.2.1.inv_int⟩, trivial, fun h => by cases h⟩
 · exact ⟨⟨_, hv.1.inv_int⟩, ⟨_, hv.2.1.inv_int⟩, ⟨_, hv.2.2.1.inv_int⟩, fun _ => rfl⟩
theorem zkw {P : Program} (w : World) (t t' ty e : TypeId) (i : TypeInfo) (z : Value) (ht : P.underlying t = some (.slice e)) (ht' : P.underlying t' = some (.int .i64)) (hi : P.info? e = some i) (hz : i.zero = some z)
   (base : Option Addr) (sLen sCap : Nat) (m : Nat) (olds : List Value) (hs : 0 < i.size) (ho : ∀ w', w'.heap = w.heap -> (Builtin.firstCells i.size sLen (.slice base sLen sCap)).run P w' = .ok olds.toArray w')
   (hm : m <= 9223372036854775807) (hmb : m * i.bytes <= 140737488355328) (hg : sCap < sLen + m) (h63 : sLen + m <= 9223372036854775807) (hfit : Builtin.nextslicecap (sLen + m) sCap * i.bytes <= 281474976710656) :
   (Builtin.append_ #[t, t'] ty #[.slice base sLen sCap, .int .i64 (m : Nat)]).run P w =
     .ok (.slice (some ⟨w.heap.size, 0, none⟩) (sLen + m) (grownCap w (sLen + m) sCap e)) (w.drew.alloc (.cells (olds.toArray ++ Builtin.zeroCells z.cells m ++ Builtin.zeroCells z.cells (grownCap w (sLen + m) sCap e - (sLen + m))) e)) := by
 have hgt : ¬ (sLen + m <= sCap) := by omega
 have hw : IntKind.i64.wrap (m : Int) = m := by rw [IntKind.wrap_i64]; omega
 have h63' : ¬ (9223372036854775807 < ((sLen : Int) + (m : Int))) := by omega
 have h48' : ¬ (281474976710656 < Builtin.nextslicecap (sLen + m) sCap * i.bytes) := by omega
 have h48i : ¬ (281474976710656 < (m : Int) * (i.bytes : Int)) := by
   rw [<- Int.natCast_mul]
   omega
 have hneg : ¬ ((m : Int) < 0) := by omega
 have hfo := ho w.drew rfl
 have hz0 : m * i.size = 0 -> Builtin.zeroCells z.cells m = #[] := by
   intro h0
   have : m = 0 := by
     rcases Nat.mul_eq_zero.1 h0 with h | h
     · exact h
     · omega
   subst this
   simp [Builtin.zeroCells]
 by_cases h0 : m * i.size = 0
 · simp [Builtin.append_, run_underlying ht, run_underlying ht', sizeOf, typeInfo, zeroValue, hi, hz, asInt, asIntOf, hw, hgt, hneg, h63', h48', h48i, Question.forced, hfo, newRow, grownCap, h0, hz0 h0]
 · simp [Builtin.append_, run_underlying ht, run_underlying ht', sizeOf, typeInfo, zeroValue, hi, hz, asInt, asIntOf, hw, hgt, hneg, h63', h48', h48i, Question.forced, hfo, newRow, grownCap, h0]
theorem zlw {P : Program} (w : World) (t t' ty e : TypeId) (i : TypeInfo) (z : Value) (ht : P.underlying t = some (.slice e)) (ht' : P.underlying t' = some (.int .i64)) (hi : P.info? e = some i) (hz : i.zero = some z)
   (base : Option Addr) (sLen sCap : Nat) (m : Nat) (hs : 0 < i.size) (hm : m <= 9223372036854775807) (hmb : m * i.bytes <= 140737488355328) (hg : sLen + m <= sCap) {w' : World}
   (hst : ∀ ad, base = some ad -> (storeCells (ad.add (sLen * i.size)) (Builtin.zeroCells z.cells m).toList).run P w = .ok () w') (hb : base = none -> w' = w) :
   (Builtin.append_ #[t, t'] ty #[.slice base sLen sCap, .int .i64 (m : Nat)]).run P w = .ok (.slice base (sLen + m) sCap) w' := by
 have hw : IntKind.i64.wrap (m : Int) = m := by rw [IntKind.wrap_i64]; omega
 have h48i : ¬ (281474976710656 < (m : Int) * (i.bytes : Int)) := by
   rw [<- Int.natCast_mul]
   omega
 have hneg : ¬ ((m : Int) < 0) := by omega
 have hz0 : m * i.size = 0 -> Builtin.zeroCells z.cells m = #[] := by
   intro h0
   have : m = 0 := by
     rcases Nat.mul_eq_zero.1 h0 with h | h
     · exact h
     · omega
   subst this
   simp [Builtin.zeroCells]
 cases base with
 | none =>
   obtain rfl := hb rfl
   by_cases h0 : m * i.size = 0 <;> simp [Builtin.append_, run_underlying ht, run_underlying ht', sizeOf, typeInfo, zeroValue, hi, hz, asInt, asIntOf, hw, hneg, h48i, hg, h0]
 | some ad =>
   have hst := hst ad rfl
   by_cases h0 : m * i.size = 0
   · rw [hz0 h0] at hst
     simp [Builtin.append_, run_underlying ht, run_underlying ht', sizeOf, typeInfo, zeroValue, hi, hz, asInt, asIntOf, hw, hneg, h48i, hg, h0, hst]
   · simp [Builtin.append_, run_underlying ht, run_underlying ht', sizeOf, typeInfo, zeroValue, hi, hz, asInt, asIntOf, hw, hneg, h48i, hg, h0, hst]
def L4i (i j k : Int) (n : Nat) : Prop := 0 <= i /\ i <= j /\ j <= k /\ k <= n
theorem yco {i j k : Int} {n : Nat} (h : yoo i j k (zbh n) = true) : L4i i j k n := by
 simp only [yoo, zbh, Bool.and_eq_true, decide_eq_true_eq] at h
 exact ⟨h.1.1.1, h.1.1.2, h.1.2, of_decide_eq_true h.2⟩
section
variable {P : Program} {T : TT} {base : Nat} {M : Two} {W : World} {nt : Nat} {f : Nat -> Option AV} {g : Nat -> Option Ob} {c : Nat -> Bool} {a : Act} {w : World} {D : Nat -> Prop} {μ : Mu} {o : Oper}
theorem znn (size c : Nat) (a : Option Addr) (l l' cap cap' : Nat) : Builtin.firstCells size c (.slice a l cap) = Builtin.firstCells size c (.slice a l' cap') := by
 cases a <;> rfl
theorem ykl (h : Sim base M W nt f g c a w D μ) {esz m : Nat} {ob : Nat -> Option Ob} (hob : ∀ id z, ob id = some z -> g id = some z) {x : AV} {src : Nat -> Nat -> AV} {u : Value} (e : zcs std esz ob x = some (m, src)) (hx : yh8 x = true) (r : R w.heap D μ x u) (k : Nat) (hk : k <= m) :
   ∃ news : List Value, news.length = k * esz /\ (∀ w', w'.heap = w.heap -> (Builtin.firstCells esz k u).run P w' = .ok news.toArray w') /\ (Builtin.lenOf u).run P w = .ok m w /\
     ∀ i j, i < k -> j < esz -> ∃ v, news[i * esz + j]? = some v /\ one v /\ R w.heap D zam (src i j) v := by
 obtain ⟨_, _, _, hlen, _⟩ := zfu (P := P) h hob e r
 have key : ∀ (y : AV) (ad : Option Addr) (l cap : Nat), u = .slice ad l cap -> zcs std esz ob y = some (k, src) -> R w.heap D μ y (.slice ad k cap) ->
     ∃ news : List Value, news.length = k * esz /\ (∀ w', w'.heap = w.heap -> (Builtin.firstCells esz k u).run P w' = .ok news.toArray w') /\ (Builtin.lenOf u).run P w = .ok m w /\
     ∀ i j, i < k -> j < esz -> ∃ v, news[i * esz + j]? = some v /\ one v /\ R w.heap D zam (src i j) v := by
   rintro y ad l cap rfl ey ry
   obtain ⟨news, n1, n2, n3, n4⟩ := zfu (P := P) h hob ey ry
   exact ⟨news, n1, fun w' hw => by rw [znn esz k ad l k cap cap]; exact n2 w' hw, hlen, n4⟩
 have lists : ∀ sz n get, zcs std esz ob (.lst sz n get) = some (m, src) -> R w.heap D μ (.lst sz n get) u -> ∃ news : List Value, news.length = k * esz /\ (∀ w', w'.heap = w.heap -> (Builtin.firstCells esz k u).run P w' = .ok news.toArray w') /\ (Builtin.lenOf u).run P w = .ok m w /\
     ∀ i j, i < k -> j < esz -> ∃ v, news[i * esz + j]? = some v /\ one v /\ R w.heap D zam (src i j) v := by
   intro sz n get e9 r
   simp only [zcs] at e9
   split at e9
   · rename_i hsz
     obtain rfl := za1 hsz
     cases e9
     cases r with
     | lst0 _ _ ad cap hn =>
       obtain rfl : k = 0 := by omega
       exact key (.lst sz 0 src) ad 0 cap rfl (by simp [zcs, za3]) (.lst0 _ _ ad cap hn)
     | lst _ _ _ b o' cap vs hD hc hv h1 hr =>
       exact key (.lst sz k src) _ m cap rfl (by simp [zcs, za3]) (.lst _ _ _ b o' cap vs hD (by omega) (fun i j hi hj => hv i j (by omega) hj) (fun i j hi hj => h1 i j (by omega) hj) (fun i j hi hj => hr i j (by omega) hj))
   · cases e9
 have rows : ∀ id sz off n, zcs std esz ob (.sl id sz off n) = some (m, src) -> R w.heap D μ (.sl id sz off n) u -> ∃ news : List Value, news.length = k * esz /\ (∀ w', w'.heap = w.heap -> (Builtin.firstCells esz k u).run P w' = .ok news.toArray w') /\ (Builtin.lenOf u).run P w = .ok m w /\
     ∀ i j, i < k -> j < esz -> ∃ v, news[i * esz + j]? = some v /\ one v /\ R w.heap D zam (src i j) v := by
   intro id sz off n e9 r
   simp only [zcs] at e9
   split at e9
   · rename_i hsz
     obtain rfl := za1 hsz
     split at e9
     · rename_i ty sz' n' get hg
       split at e9
       · rename_i hsz'
         obtain rfl := za1 hsz'
         cases e9
         cases r with
         | slv _ _ ad hm =>
           obtain rfl : k = 0 := by omega
           exact key (.sl id sz 0 0) ad 0 0 rfl (by simp [zcs, za3, hg]) (.slv _ _ ad hm)
         | sl0 _ _ _ b z mm o hm ho =>
           obtain rfl : k = 0 := by omega
           exact key (.sl id sz off 0) _ 0 0 rfl (by simp [zcs, za3, hg]) (.sl0 _ _ _ b z mm o hm ho)
         | sl _ _ _ _ b z mm cap hm hn hz ho =>
           exact key (.sl id sz off k) _ m cap rfl (by simp [zcs, za3, hg]) (.sl _ _ _ _ b z mm cap hm (by omega) hz (by omega))
       · cases e9
     · cases e9
   · cases e9
 have none0 : k = 0 -> ∀ ad l cap, u = .slice ad l cap -> (ad = none -> cap = 0) -> ∃ news : List Value, news.length = k * esz /\ (∀ w', w'.heap = w.heap -> (Builtin.firstCells esz k u).run P w' = .ok news.toArray w') /\ (Builtin.lenOf u).run P w = .ok m w /\
     ∀ i j, i < k -> j < esz -> ∃ v, news[i * esz + j]? = some v /\ one v /\ R w.heap D zam (src i j) v := by
   rintro rfl ad l cap hu hc
   exact key (.lst esz 0 src) ad l cap hu (by simp [zcs, za3]) (.lst0 _ _ ad cap hc)
 cases x with
 | lst sz n get => exact lists sz n get e r
 | lstx sz n get => exact lists sz n get e r.lessx
 | sl id sz off n => exact rows id sz off n e r
 | slc id sz off n cap => exact rows id sz off n e r.less
 | nils =>
   cases e
   cases r
   exact none0 (by omega) _ _ _ rfl (fun _ => rfl)
 | emp =>
   cases e
   cases r
   exact none0 (by omega) _ _ _ rfl (fun h => by cases h)
 | emz =>
   cases e
   cases r
   exact none0 (by omega) _ _ _ rfl (fun h => by cases h)
 | str l => cases hx
 | _ => simp [zcs] at e
theorem Sim.seg (h : Sim base M W nt f g c a w D μ) {id b z k ty sz : Nat} {get src : Nat -> Nat -> AV} (hμ : μ id = some (some (b, z, k))) (hg : g id = some (.row ty sz k get)) (hc : c id = false) (hsz : 0 < sz)
   {off m : Nat} (hoff : off + m <= k) {news : List Value} (n1 : news.length = m * sz) (n4 : ∀ i j, i < m -> j < sz -> ∃ v, news[i * sz + j]? = some v /\ one v /\ R w.heap D zam (src i j) v) :
   ∃ w', (storeCells ⟨b, off * sz, none⟩ news).run P w = .ok () w' /\
     Sim base M W nt f (zbe g [(id, .row ty sz k (fun i j => L3 std znf (L3 std zes off m i) (src (L2 std Nat.sub i off) j) (get i j)))]) c a w' D μ := by
 obtain ⟨_, C, t0, fr, hh, hcs, hf, hle, hrow⟩ := h.obs id _ _ hg hμ
 have hmz : off * sz + m * sz <= C.size := by
   have h1 : (off + m) * sz <= k * sz := Nat.mul_le_mul_right _ hoff
   rw [Nat.add_mul] at h1
   omega
 have hnews : ∀ v ∈ news, one v := by
   intro v hv
   obtain ⟨q, hq⟩ := List.getElem?_of_mem hv
   have hql : q < m * sz := by rw [<- n1]; exact (List.getElem?_eq_some_iff.1 hq).1
   obtain ⟨v', v1, v2, v3⟩ := n4 (q / sz) (q % sz) (Nat.div_lt_of_lt_mul (by rw [Nat.mul_comm]; exact hql)) (Nat.mod_lt _ (by omega))
   rw [show q / sz * sz + q % sz = q by rw [Nat.mul_comm]; exact Nat.div_add_mod q sz, hq] at v1
   cases v1
   exact v2
 have hst := zdi P b (off * sz) t0 fr news 0 C w hh (by rw [hcs]; exact hf.1) (by rw [n1]; omega) hnews
 simp only [Nat.add_zero] at hst
 refine ⟨_, hst, h.write (C' := zb1 C (off * sz) news) hμ hg (by simp) (by simp) hc hh (fun hD => ?_)⟩
 refine ⟨rfl, _, t0, fr, setRow_heap w b C _ t0 fr hh, by rw [zap, hcs], ⟨hf.1, hf.2.1, zc0 hf.2.2.1 hnews, hf.2.2.2⟩, hle, fun i j hi' hj => ?_⟩
 obtain ⟨y0, y1, y2, y3⟩ := hrow i j hi' hj
 have hin : i * sz + j < C.size := (Array.getElem?_eq_some_iff.1 y1).1
 rw [zaj _ _ _ _ hin]
 by_cases hseg : off <= i /\ i < off + m
 · have hB : L3 std zes off m i = true := by
     show (zbm off i && zbg i (off + m)) = true
     rw [Bool.and_eq_true, zbn, zdz]
     exact hseg
   obtain ⟨v, v1, v2, v3⟩ := n4 (i - off) j (by omega) hj
   have hi1 : i * sz = off * sz + (i - off) * sz := by rw [<- Nat.add_mul]; congr 1; omega
   have hlt := (List.getElem?_eq_some_iff.1 v1).1
   refine ⟨v, ?_, v2, ?_⟩
   · rw [if_pos ⟨by omega, by omega⟩, show i * sz + j - off * sz = (i - off) * sz + j by omega]
     exact v1
   · show R _ D zam (L3 std znf (L3 std zes off m i) (src (L2 std Nat.sub i off) j) (get i j)) v
     rw [hB]
     exact v3.mono hD (fun _ h => h) (fun _ _ h => h)
 · have hB : L3 std zes off m i = false := by
     show (zbm off i && zbg i (off + m)) = false
     cases hq : (zbm off i && zbg i (off + m)) with
     | false => rfl
     | true =>
       rw [Bool.and_eq_true, zbn, zdz] at hq
       exact absurd hq hseg
   refine ⟨y0, ?_, y2, ?_⟩
   · rw [if_neg]
     · exact y1
     · rintro ⟨p1, p2⟩
       rw [n1] at p2
       apply hseg
       constructor
       · apply Nat.le_of_not_lt
         intro hlt
         have h3 : (i + 1) * sz <= off * sz := Nat.mul_le_mul_right _ hlt
         rw [Nat.add_mul] at h3
         omega
       · apply Nat.lt_of_not_le
         intro hge
         have h3 : (off + m) * sz <= i * sz := Nat.mul_le_mul_right _ hge
         rw [Nat.add_mul] at h3
         omega
   · show R _ D zam (L3 std znf (L3 std zes off m i) (src (L2 std Nat.sub i off) j) (get i j)) y0
     rw [hB]
     exact y3.mono hD (fun _ h => h) (fun _ _ h => h)
variable (h : Sim base M W nt f g c a w D μ) (hd : ∀ d, o.dst = some d -> d < nt)
include h hd
theorem yfc (hT : zbw P T) {x : Operand} {t : Nat} {r : List Nat} {ts : Array TypeId} (hts : ts.toList = t :: r) (e : o.op = .call { callee := .builtin .cap, args := #[x], argTypes := ts }) {vals : List AV}
   (hv : Ops w.heap D μ a [x] vals) : zcg P base M W nt f g c o a w (yv4 T std t vals) := by
 match vals, hv with
 | [v], ⟨hv, _⟩ =>
   have h0 : ts[0]? = some t := by rw [<- Array.getElem?_toList, hts]; rfl
   unfold yv4
   split
   · rename_i id sz off n cap he
     simp only [List.cons.injEq, and_true] at he
     subst he
     split
     · rename_i hi
       have ok := (hT _ _ hi).k.1
       refine za0 h hd (u := .int .i64 (cap : Nat)) ?_ (.int _ _)
       unfold execOp
       rw [e]
       obtain ⟨ad, hu⟩ : ∃ ad, a.eval x = .slice ad n cap := by
         generalize a.eval x = u at hv
         cases hv <;> exact ⟨_, rfl⟩
       simp [resolve, invoke, builtin, Builtin.cap_, h0, run_underlying ok, goInt, hu]
     · trivial
   · trivial
theorem zxd (hT : zbw P T) {t t' : Nat} {x y : Operand} {ts : Array TypeId} (hts : ts.toList = [t, t']) (e : o.op = .call { callee := .builtin .copy, args := #[x, y], argTypes := ts }) {vals : List AV} (hv : Ops w.heap D μ a [x, y] vals)
   {ob : Nat -> Option Ob} (hob : ∀ id z, ob id = some z -> g id = some z) {ice : Nat -> Bool} (hice : ∀ id, ice id = false -> c id = false) :
   zcg P base M W nt f g c o a w (zsc T std t t' ob ice vals) := by
 obtain rfl : ts = #[t, t'] := by apply Array.ext'; simpa using hts
 unfold zsc
 split
 · rename_i id sz off n cap xv
   obtain ⟨hx, hy, _⟩ := hv
   split
   · rename_i sz0 ag ze e' esz eb eqf p1 p2 p3 hi
     obtain ⟨ok1, ok2⟩ := (hT t _ hi).k
     obtain ⟨ei', hei', hes⟩ := Option.map_eq_some_iff.1 ok2
     simp only [Prod.mk.injEq] at hes
     obtain ⟨hes1, hes2⟩ := hes
     subst hes1; subst hes2
     split
     · rename_i m src hsrc
       have c0 : yh8 xv = true := by cases hx : yh8 xv <;> simp_all
       have c1 : zde T t' = true := by cases hx : zde T t' <;> simp_all
       have c2 : zbm 1 ei'.size = true := by cases hx : zbm 1 ei'.size <;> simp_all
       have c3 : (T.find e').isSome = true := by cases hx : (T.find e').isSome <;> simp_all
       rw [c0, c1, c2, c3] at hsrc
       simp only [cond_true] at hsrc
       split
       · rename_i ty sz' k get hsz hic hg
         obtain rfl := za1 hsz
         have hg := hob _ _ hg
         have hic := hice _ hic
         split
         · rename_i hsz'
           obtain rfl := za1 hsz'
           intro hb
           have hb' : 0 < n := by
             have hb : zbg 0 n = true := hb
             rw [zbn] at hb
             exact hb
           show Adv P base M W nt f g c o a w (.int .i64 (zbh (Nat.min m n))) [(id, .row ty ei'.size k (fun i j => L3 std znf (L3 std zes off (Nat.min m n) i) (src (L2 std Nat.sub i off) j) (get i j)))] []
           obtain ⟨news, n1, n2, n3, n4⟩ := ykl (P := P) h hob hsrc c0 hy (Nat.min m n) (Nat.min_le_left _ _)
           have hmn : Nat.min m n <= n := Nat.min_le_right _ _
           have run : ∀ u w', (Builtin.copy_ #[t, t'] o.type #[a.eval x, a.eval y]).run P w = .ok u w' -> (execOp a.eval o).run P w = .ok (.value u) w' := by
             intro u w' hu
             unfold execOp
             rw [e]
             simp [resolve, invoke, builtin, hu]
           generalize a.eval x = u at hx run
           cases hx with
           | slcv => omega
           | slc0 => omega
           | slc _ _ _ _ _ b z mm hμ hn hz ho =>
             have hm := (h.obs id _ _ hg hμ).1
             subst hm
             obtain ⟨w', hst, hsim⟩ := h.seg (P := P) hμ hg hic (zb3 c2) (off := off) (m := Nat.min m n) (by omega) n1 n4
             have hso : (sizeOf e').run P w = .ok ei'.size w := by simp [sizeOf, typeInfo, program, Sem.run, hei']
             have hfc := n2 w rfl
             have hcm : Nat.min n m = Nat.min m n := Nat.min_comm n m
             have hrun : (Builtin.copy_ #[t, t'] o.type #[.slice (some ⟨b, off * ei'.size, none⟩) n cap, a.eval y]).run P w = .ok (goInt (Nat.min m n)) w' := by
               simp [Builtin.copy_, run_underlying ok1, n3, hcm, hso, hfc, hst]
             intro K Q hK
             unfold Oper.wp
             rw [run _ _ hrun]
             exact hK _ _ ⟨_, _, hsim.put hd (.int _ _)⟩
         · trivial
       · trivial
     · trivial
   · trivial
 · trivial
theorem zsx (hT : zbw P T) {t : TypeId} {x : Operand} {lo hi m : Option Operand} (e : o.op = .slice t x lo hi m) {vals : List AV} (hv : Ops w.heap D μ a (x :: (lo.toList ++ (hi.toList ++ m.toList))) vals) :
   zcg P base M W nt f g c o a w (zuj T std t lo.isSome hi.isSome m.isSome vals) := by
 match vals, hv with
 | v :: vs, ⟨hx, hv⟩ =>
   unfold zuj
   simp only
   split
   · rename_i sz0 ag ze e' esz eb eqf p1 p2 p3 hi0
     obtain ⟨ok1, ok2⟩ := (hT t _ hi0).k
     obtain ⟨ei', hei', hes⟩ := Option.map_eq_some_iff.1 ok2
     simp only [Prod.mk.injEq] at hes
     obtain ⟨hes1, hes2⟩ := hes
     subst hes1; subst hes2
     have hso : (sizeOf e').run P w = .ok ei'.size w := by simp [sizeOf, typeInfo, program, Sem.run, hei']
     split
     · rename_i p q s h3
       obtain ⟨b1, b2, b3, b4⟩ := yf1 h3 hv
       have run : ∀ u, (Instr.sliceAt t (a.eval x) (lo.map a.eval) (hi.map a.eval) (m.map a.eval)).run P w = .ok u w -> (execOp a.eval o).run P w = .ok (.value u) w := by
         intro u hu; unfold execOp; rw [e]; simp [hu]
       generalize a.eval x = u at hx run
       have go : ∀ (ad : Option Addr) (n cap l r k : Nat), u = .slice ad n cap -> p.getD 0 = (l : Int) -> q.getD n = (r : Int) -> s.getD cap = (k : Int) -> l <= r -> r <= k -> k <= cap ->
           (Instr.sliceAt t u (lo.map a.eval) (hi.map a.eval) (m.map a.eval)).run P w = .ok (.slice (if k = l then ad else ad.map (·.add (l * ei'.size))) (r - l) (k - l)) w := by
         rintro ad n cap l r k rfl g1 g2 g3 g4 g5 g6
         have hbr := zuo (P := P) (w := w) true n cap b1 b2 b3 b4 l r k g1 g2 g3 g4 g5 g6
         simp [Instr.sliceAt, Instr.slice, run_underlying ok1, hbr, hso]
       have nums : ∀ (n cap top : Nat), L4i (gei std p 0) (gei std q n) (gei std s cap) top -> ∃ l r k : Nat, p.getD 0 = (l : Int) /\ q.getD n = (r : Int) /\ s.getD cap = (k : Int) /\ l <= r /\ r <= k /\ k <= top /\ geo std p 0 = l /\ geo std q n = r /\ geo std s cap = k := by
         rintro n cap top ⟨q1, q2, q3, q4⟩
         have e0 : ∀ (p : Option Int) (n : Nat), gei std p n = p.getD n := fun p n => by cases p <;> rfl
         have e1 : ∀ (p : Option Int) (n : Nat), geo std p n = (p.getD n).toNat := fun p n => by cases p <;> simp [geo, std]
         simp only [e0] at q1 q2 q3 q4
         refine ⟨(p.getD 0).toNat, (q.getD n).toNat, (s.getD cap).toNat, ?_, ?_, ?_, ?_, ?_, ?_, e1 _ _, e1 _ _, e1 _ _⟩ <;> simp only [Int.natCast_zero, Int.ofNat_zero] at * <;> omega
       split
       · rename_i id sz off n cap
         split
         · rename_i hsz
           obtain rfl := za1 hsz
           intro hb
           obtain ⟨l, r, k, g1, g2, g3, g4, g5, g6, k1, k2, k3⟩ := nums n cap cap (yco hb)
           have hgo := fun ad h => go ad n cap l r k h g1 g2 g3 g4 g5 g6
           have hoff : ∀ (p : Option Int) (off : Nat), yev std off p = off + geo std p 0 := fun p off => by cases p <;> simp [yev, geo, L2, std]
           have hsub : ∀ (p : Option Int) (x : Nat), zsp std x p = x - geo std p 0 := fun p off => by cases p <;> simp [zsp, geo, L2, std]
           rw [show yev (fun {α β} => std) off p = off + geo std p 0 from hoff p off, show zsp (fun {α β} => std) (geo std q n) p = geo std q n - geo std p 0 from hsub p _, show zsp (fun {α β} => std) (geo std s cap) p = geo std s cap - geo std p 0 from hsub p _, show geo (fun {α β} => std) p 0 = l from k1, show geo (fun {α β} => std) q n = r from k2, show geo (fun {α β} => std) s cap = k from k3]
           show Adv P base M W nt f g c o a w (.slc id ei'.size (off + l) (r - l) (k - l)) [] []
           cases hx with
           | slcv _ _ ad hμ =>
             have h1 := hgo ad rfl
             obtain rfl : l = 0 := by omega
             obtain rfl : r = 0 := by omega
             obtain rfl : k = 0 := by omega
             exact za0 h hd (run _ h1) (.slcv _ _ _ hμ)
           | slc0 _ _ _ b z mm o' hμ ho =>
             have h1 := hgo _ rfl
             obtain rfl : l = 0 := by omega
             obtain rfl : r = 0 := by omega
             obtain rfl : k = 0 := by omega
             exact za0 h hd (run _ h1) (.slc0 _ _ _ b z mm _ hμ ho)
           | slc _ _ _ _ _ b z mm hμ hn hz ho =>
             have h1 := hgo _ rfl
             by_cases hcl : k = l
             · subst hcl
               rw [if_pos rfl] at h1
               have h0 : r - k = 0 := by omega
               rw [h0, Nat.sub_self] at h1
               rw [h0, Nat.sub_self]
               exact za0 h hd (run _ h1) (.slc0 _ _ _ b z mm _ hμ (by omega))
             · rw [if_neg hcl] at h1
               simp only [Option.map_some, zba] at h1
               rw [<- Nat.add_mul] at h1
               refine za0 h hd (run _ h1) (.slc _ _ _ _ _ b z mm hμ (by omega) (Nat.le_trans (Nat.mul_le_mul_right _ (by omega)) hz) (by omega))
         · trivial
       · rename_i id sz off n
         split
         · rename_i x0 hsz
           obtain rfl := za1 hsz
           intro hb
           obtain ⟨l, r, k, g1, g2, g3, g4, g5, g6, k1, k2, k3⟩ := nums n n n (yco hb)
           have hoff : ∀ (p : Option Int) (off : Nat), yev std off p = off + geo std p 0 := fun p off => by cases p <;> simp [yev, geo, L2, std]
           have hsub : ∀ (p : Option Int) (x : Nat), zsp std x p = x - geo std p 0 := fun p off => by cases p <;> simp [zsp, geo, L2, std]
           rw [show yev (fun {α β} => std) off p = off + geo std p 0 from hoff p off, show zsp (fun {α β} => std) (geo std q n) p = geo std q n - geo std p 0 from hsub p _, show zsp (fun {α β} => std) (geo std (some x0) n) p = geo std (some x0) n - geo std p 0 from hsub p _, show geo (fun {α β} => std) p 0 = l from k1, show geo (fun {α β} => std) q n = r from k2, show geo (fun {α β} => std) (some x0) n = k from k3]
           show Adv P base M W nt f g c o a w (.slc id ei'.size (off + l) (r - l) (k - l)) [] []
           have g3' : ∀ cap : Nat, (some x0).getD (cap : Int) = (k : Int) := fun _ => g3
           cases hx with
           | slv _ _ ad hμ =>
             have h1 := go ad 0 0 l r k rfl g1 g2 (g3' 0) g4 g5 g6
             obtain rfl : l = 0 := by omega
             obtain rfl : r = 0 := by omega
             obtain rfl : k = 0 := by omega
             exact za0 h hd (run _ h1) (.slcv _ _ _ hμ)
           | sl0 _ _ _ b z mm o' hμ ho =>
             have h1 := go _ 0 0 l r k rfl g1 g2 (g3' 0) g4 g5 g6
             obtain rfl : l = 0 := by omega
             obtain rfl : r = 0 := by omega
             obtain rfl : k = 0 := by omega
             exact za0 h hd (run _ h1) (.slc0 _ _ _ b z mm _ hμ ho)
           | sl _ _ _ _ b z mm cap hμ hn hz ho =>
             have h1 := go _ n cap l r k rfl g1 g2 (g3' cap) g4 g5 (by omega)
             by_cases hcl : k = l
             · subst hcl
               rw [if_pos rfl] at h1
               have h0 : r - k = 0 := by omega
               rw [h0, Nat.sub_self] at h1
               rw [h0, Nat.sub_self]
               exact za0 h hd (run _ h1) (.slc0 _ _ _ b z mm _ hμ (by omega))
             · rw [if_neg hcl] at h1
               simp only [Option.map_some, zba] at h1
               rw [<- Nat.add_mul] at h1
               refine za0 h hd (run _ h1) (.slc _ _ _ _ _ b z mm hμ (by omega) (Nat.le_trans (Nat.mul_le_mul_right _ (by omega)) hz) (by omega))
         · trivial
       · rename_i sz n get
         split
         · rename_i x0 hsz
           obtain rfl := za1 hsz
           intro hb
           have hb : (yoo (gei std p 0) (gei std q n) x0 (zbh n) && ieq (gei std q n) x0) = true := hb
           rw [Bool.and_eq_true] at hb
           obtain ⟨hb, heq⟩ := hb
           have heq : gei std q n = x0 := eq_of_beq heq
           obtain ⟨l, r, k, g1, g2, g3, g4, g5, g6, k1, k2, k3⟩ := nums n n n (yco hb)
           have hoff : ∀ (p : Option Int) (off : Nat), yev std off p = off + geo std p 0 := fun p off => by cases p <;> simp [yev, geo, L2, std]
           have hsub : ∀ (p : Option Int) (x : Nat), zsp std x p = x - geo std p 0 := fun p off => by cases p <;> simp [zsp, geo, L2, std]
           rw [show zsp (fun {α β} => std) (geo std q n) p = geo std q n - geo std p 0 from hsub p _, show geo (fun {α β} => std) p 0 = l from k1, show geo (fun {α β} => std) q n = r from k2]
           have g3' : ∀ cap : Nat, (some x0).getD (cap : Int) = (k : Int) := fun _ => g3
           have hrk : r = k := by
             have e0 : gei std q n = q.getD n := by cases q <;> rfl
             rw [e0, g2] at heq
             have g3 : x0 = (k : Int) := g3
             omega
           subst hrk
           have hcut : ∀ i j, yex std get p i j = get (l + i) j := by
             intro i j
             cases p with
             | none =>
               have : l = 0 := by rw [<- k1]; rfl
               subst this
               simp [yex]
             | some a =>
               have : l = a.toNat := by rw [<- k1]; rfl
               subst this
               rfl
           cases hx with
           | lst0 _ _ ad cap hn =>
             have h1 := go ad 0 cap l r r rfl g1 g2 (g3' cap) g4 g5 (by omega)
             obtain rfl : l = 0 := by omega
             obtain rfl : r = 0 := by omega
             exact za0 h hd (run _ h1) (.lstx _ _ _ _ (.lst0 _ _ _ _ (fun _ => rfl)))
           | lst _ _ _ b o' cap vs hD hc hv hone hr =>
             have h1 := go _ n cap l r r rfl g1 g2 (g3' cap) g4 g5 (by omega)
             refine za0 h hd (run _ h1) (.lstx _ _ _ _ ?_)
             by_cases hcl : r = l
             · subst hcl
               rw [if_pos rfl, Nat.sub_self]
               exact .lst0 _ _ _ _ (fun _ => rfl)
             · rw [if_neg hcl]
               simp only [Option.map_some, zba]
               refine .lst _ _ _ b _ _ (fun i j => vs (l + i) j) hD (Nat.le_refl _) (fun i j hi hj => ?_) (fun i j hi hj => hone _ _ (by omega) hj) (fun i j hi hj => ?_)
               · have := hv (l + i) j (by omega) hj
                 rw [Nat.add_mul] at this
                 rw [show o' + l * ei'.size + i * ei'.size + j = o' + (l * ei'.size + i * ei'.size) + j by omega]
                 exact this
               · rw [show yex (fun {α β} => std) get p i j = get (l + i) j from hcut i j]
                 exact hr _ _ (by omega) hj
         · trivial
       · trivial
     · trivial
   · trivial
omit hd in
theorem zv1 (hT : zbw P T) {t t' ty e : Nat} {i : TypeInfo} {ei : TI} (ht : P.underlying t = some (.slice e)) (hi : P.info? e = some i) (hei : T.find e = some ei) (hs : 0 < i.size) {ob : Nat -> Option Ob} (hob : ∀ id z, ob id = some z -> g id = some z)
   {x : AV} {u : Value} {q : Bool} {m : Nat} {src : Nat -> Nat -> AV} (es : yth T std i.size i.bytes ei t' ob x = some (q, m, src)) (hq : q = true) (hx : R w.heap D μ x u) :
   ∃ news : List Value, news.length = m * i.size /\ (∀ a b, a < m -> b < i.size -> ∃ v, news[a * i.size + b]? = some v /\ one v /\ R w.heap D zam (src a b) v) /\
     (∀ base sLen sCap w', sLen + m <= sCap -> (∀ ad, base = some ad -> (storeCells (Addr.add ad (sLen * i.size)) news).run P w = .ok () w') -> (base = none -> w' = w) -> (Builtin.append_ #[t, t'] ty #[.slice base sLen sCap, u]).run P w = .ok (.slice base (sLen + m) sCap) w') /\
     (∀ base sLen sCap olds z, i.zero = some z -> (∀ w', w'.heap = w.heap -> (Builtin.firstCells i.size sLen (.slice base sLen sCap)).run P w' = .ok (List.toArray olds) w') -> sCap < sLen + m -> sLen + m <= 9223372036854775807 -> Builtin.nextslicecap (sLen + m) sCap * i.bytes <= 281474976710656 ->
       (Builtin.append_ #[t, t'] ty #[.slice base sLen sCap, u]).run P w = .ok (.slice (some ⟨w.heap.size, 0, none⟩) (sLen + m) (grownCap w (sLen + m) sCap e)) (w.drew.alloc (.cells (olds.toArray ++ news.toArray ++ Builtin.zeroCells z.cells (grownCap w (sLen + m) sCap e - (sLen + m))) e))) := by
 unfold yth at es
 split at es
 · rename_i hni
   have hni := zj0 hT hni
   split at es
   · rename_i m' g' hsrc
     cases es
     obtain ⟨news, n1, n2, n3, n4⟩ := zfu (P := P) h hob hsrc hx
     refine ⟨news, n1, n4, fun base sLen sCap w' h1 h2 h3 => zd7 w t t' ty e i ht hni hi base sLen sCap u m news n2 n3 h1 h2 h3, fun base sLen sCap olds z hz ho h1 h2 h3 => zc5 w t t' ty e i z ht hni hi hz base sLen sCap u m olds news ho n2 n3 h1 h2 h3⟩
   · cases es
 · split at es
   · rename_i n hk hfr
     have hk' : P.underlying t' = some (.int .i64) := by
       unfold ycn at hk
       split at hk
       · rename_i hi'; exact (hT t' _ hi').k
       · cases hk
     cases es
     have hq : ((decide (0 <= n) && decide (n <= 9223372036854775807)) && zco i.bytes 0 n.toNat) = true := hq
     simp only [zco, Bool.and_eq_true, decide_eq_true_eq, Nat.zero_add] at hq
     obtain ⟨⟨q1, q2⟩, q3, q4⟩ := hq
     obtain rfl := hx.inv_int
     obtain ⟨ii, z0, i1, i2, i3, i4, i5, i6⟩ := (hT e ei hei).info
     rw [hi] at i1
     cases i1
     have hzs : z0.cells.size = i.size := by rw [i5, <- i2]
     have hzl : ei.zero.length = i.size := by rw [(i6 w.heap D μ).1, hzs]
     have hn : n = ((n.toNat : Nat) : Int) := by omega
     refine ⟨(Builtin.zeroCells z0.cells n.toNat).toList, by simp [size_zeroCells, hzs, std], fun a' b' ha hb => ?_, fun base sLen sCap w' h1 h2 h3 => ?_, fun base sLen sCap olds z hz ho h1 h2 h3 => ?_⟩
     · refine ⟨_, zfr hzs ha hb, i4 _ _ (getD_some (by omega)), ?_⟩
       show R w.heap D zam (zbb .dead ei.zero b') _
       exact zdb ((i6 w.heap D μ).2 b' _ _ (zal .dead ei.zero b' (by omega)) (getD_some (by omega))) (zck hfr _ _ (zal _ _ _ (by omega)))
     · have := zlw (P := P) w t t' ty e i z0 ht hk' hi i3 base sLen sCap n.toNat hs (by omega) q3 h1 h2 h3
       rw [<- hn] at this
       exact this
     · have hz0 := hz
       rw [i3] at hz
       cases hz
       have := zkw (P := P) w t t' ty e i z0 ht hk' hi i3 base sLen sCap n.toNat olds hs ho (by omega) q3 h1 h2 h3
       rw [<- hn] at this
       rw [show (Builtin.zeroCells z0.cells n.toNat).toList.toArray = Builtin.zeroCells z0.cells n.toNat by simp]
       rw [i3] at hz0
       exact this
   · cases es
theorem zqr (hT : zbw P T) {x y : Operand} {ts : Array TypeId} {t t' : Nat} (hts : ts.toList = [t, t']) (e : o.op = .call { callee := .builtin .append, args := #[x, y], argTypes := ts }) {vals : List AV}
   (hv : Ops w.heap D μ a [x, y] vals) {ob : Nat -> Option Ob} (hob : ∀ id z, ob id = some z -> g id = some z) {ice : Nat -> Bool} (hice : ∀ id, ice id = false -> c id = false) :
   zcg P base M W nt f g c o a w (zji T std o.dst t t' ob ice (zds g o.op o.dst) vals) := by
 obtain rfl : ts = #[t, t'] := by apply Array.ext'; simpa using hts
 unfold zji
 split
 · rename_i id sz off n cap xv
   obtain ⟨hs, hv, _⟩ := hv
   split
   · rename_i d hc
     obtain ⟨hn, hdst⟩ := zcl hc
     have hnew : g d = none := by
       simp only [zds, e, zd0, hdst] at hn
       cases hg : g d with
       | none => rfl
       | some _ => rw [hg] at hn; cases hn
     split
     · rename_i sz0 ag ze e' esz eb eqf p1 p2 p3 hi
       obtain ⟨ok1, ok2⟩ := (hT t _ hi).k
       obtain ⟨ei', hei', hes⟩ := Option.map_eq_some_iff.1 ok2
       simp only [Prod.mk.injEq] at hes
       obtain ⟨hes1, hes2⟩ := hes
       subst hes1; subst hes2
       split
       · rename_i ei hei
         split
         · rename_i q m src hsrc
           have c2 : zbm 1 ei'.size = true := by cases hx : zbm 1 ei'.size <;> simp_all
           rw [c2] at hsrc
           simp only [cond_true] at hsrc
           have hsp := zb3 c2
           split
           · rename_i ty sz' k get hsz hic hg
             obtain rfl := za1 hsz
             have hg := hob _ _ hg
             have hic := hice _ hic
             split
             · rename_i hsz' hty
               obtain rfl := za1 hsz'
               obtain rfl : e' = ty := (za1 hty).symm
               have run : ∀ u w', (Builtin.append_ #[t, t'] o.type #[a.eval x, a.eval y]).run P w = .ok u w' -> (execOp a.eval o).run P w = .ok (.value u) w' := by
                 intro u w' hu
                 unfold execOp
                 rw [e]
                 simp [resolve, invoke, builtin, hu]
               obtain ⟨ii, z0, i1, i2, i3, i4, i5, i6⟩ := (hT e' ei hei).info
               rw [hei'] at i1
               cases i1
               have hzs : z0.cells.size = ei'.size := by rw [i5, <- i2]
               refine ⟨fun hb => ?_, fun hb hr => ?_⟩
               · have hb : (q && zbm (n + m) cap) = true := hb
                 rw [Bool.and_eq_true, zdz] at hb
                 obtain ⟨news, n1, n4, nin, nnew⟩ := zv1 (P := P) (ty := o.type) h hT ok1 hei' hei hsp hob hsrc hb.1 hv
                 show Adv P base M W nt f g c o a w (.slc id ei'.size off (n + m) cap) [(id, .row e' ei'.size k (fun i j => L3 std znf (L3 std zes (off + n) m i) (src (L2 std Nat.sub i (off + n)) j) (get i j)))] []
                 have same : m = 0 -> ∀ ad, a.eval x = .slice ad 0 0 -> n = 0 -> cap = 0 -> R w.heap D μ (.slc id ei'.size off 0 0) (a.eval x) -> Adv P base M W nt f g c o a w (.slc id ei'.size off (n + m) cap) [(id, .row e' ei'.size k (fun i j => L3 std znf (L3 std zes (off + n) m i) (src (L2 std Nat.sub i (off + n)) j) (get i j)))] [] := by
                   rintro rfl ad hu rfl rfl hr K Q hK
                   have hnil : news = [] := List.eq_nil_of_length_eq_zero (by rw [n1]; omega)
                   subst hnil
                   have hrun := nin ad 0 0 w (by omega) (fun ad _ => rfl) (fun _ => rfl)
                   rw [hu] at run hr
                   unfold Oper.wp
                   rw [run _ _ hrun]
                   have e1 : (fun i j => L3 std znf (L3 std zes (off + 0) 0 i) (src (L2 std Nat.sub i (off + 0)) j) (get i j)) = get := by
                     funext i j
                     have : L3 std zes (off + 0) 0 i = false := by
                       show (zbm (off + 0) i && zbg i (off + 0 + 0)) = false
                       cases hq : (zbm (off + 0) i && zbg i (off + 0 + 0)) with
                       | false => rfl
                       | true =>
                         rw [Bool.and_eq_true, zbn, zdz] at hq
                         omega
                     rw [this]; rfl
                   rw [e1] at hK
                   have e2 : zbe g [(id, .row e' ei'.size k get)] = g := by
                     funext q
                     by_cases hq : q = id
                     · subst hq; simp [zbe, za2, za3, hg]
                     · simp [zbe, za2, zak (fun x => hq x.symm : ¬ id = q)]
                   rw [e2] at hK
                   exact hK _ _ ⟨_, _, h.put hd hr⟩
                 generalize hu : a.eval x = u at hs
                 cases hs with
                 | slcv _ _ ad hμ => exact same (by omega) ad hu rfl rfl (by rw [hu]; exact .slcv _ _ _ hμ)
                 | slc0 _ _ _ b z mm o' hμ ho => exact same (by omega) _ hu rfl rfl (by rw [hu]; exact .slc0 _ _ _ _ _ _ _ hμ ho)
                 | slc _ _ _ _ _ b z mm hμ hnc hz ho =>
                   have hm := (h.obs id _ _ hg hμ).1
                   subst hm
                   obtain ⟨w', hst, hsim⟩ := h.seg (P := P) hμ hg hic hsp (off := off + n) (m := m) (by omega) n1 n4
                   have hrun := nin (some ⟨b, off * ei'.size, none⟩) n cap w' hb.2 (fun ad had => by cases had; rw [zba, <- Nat.add_mul]; exact hst) (fun hx => by cases hx)
                   rw [hu] at run
                   intro K Q hK
                   unfold Oper.wp
                   rw [run _ _ hrun]
                   exact hK _ _ ⟨_, _, hsim.put hd (.slc _ _ _ _ _ b z k hμ hb.2 hz ho)⟩
               · have hb : (q && zbm (n + m) cap) = false := hb
                 have hr : (q && zco ei'.bytes n m) = true := hr
                 simp only [zco, Bool.and_eq_true, decide_eq_true_eq] at hr
                 obtain ⟨hq, hr1, hr2⟩ := hr
                 rw [hq, Bool.true_and] at hb
                 have hg0 : cap < n + m := by
                   apply Nat.lt_of_not_le
                   intro hle
                   have : zbm (n + m) cap = true := by rw [zdz]; exact hle
                   rw [hb] at this; cases this
                 obtain ⟨news, n1, n4, nin, nnew⟩ := zv1 (P := P) (ty := o.type) h hT ok1 hei' hei hsp hob hsrc hq hv
                 show Adv P base M W nt f g c o a w (.sl d ei'.size 0 (n + m)) [(d, .row e' ei'.size (n + m) (fun i j => L3 std znf (L2 std zbg i n) (get (L2 std Nat.add off i) j) (src (L2 std Nat.sub i n) j)))] []
                 obtain ⟨olds, o1, o2, o4⟩ : ∃ olds : List Value, olds.length = n * ei'.size /\ (∀ w', w'.heap = w.heap -> (Builtin.firstCells ei'.size n (a.eval x)).run P w' = .ok olds.toArray w') /\ ∀ i j, i < n -> j < ei'.size -> ∃ v, olds[i * ei'.size + j]? = some v /\ one v /\ R w.heap D zam (get (off + i) j) v := by
                   obtain ⟨olds, o1, o2, _, o4⟩ := zfu (P := P) (esz := ei'.size) (m := n) (x := .slc id ei'.size off n cap) (src := fun i j => get (off + i) j) (ob := g) h (fun _ _ h => h) (by simp only [zcs, za3, hg]; rfl) hs
                   exact ⟨olds, o1, o2, o4⟩
                 obtain ⟨base', hbase⟩ : ∃ base', a.eval x = .slice base' n cap := by
                   generalize a.eval x = u at hs
                   cases hs <;> exact ⟨_, rfl⟩
                 rw [hbase] at o2 run
                 have hrun := nnew base' n cap olds z0 i3 o2 hg0 hr2 (growslice_fits hg0 hr1)
                 intro K Q hK
                 unfold Oper.wp
                 rw [run _ _ hrun]
                 have hw : Sim base M W nt f g c a w.drew D μ := h.drew
                 obtain ⟨C2, hC2⟩ : ∃ C2, C2 = olds.toArray ++ news.toArray ++ Builtin.zeroCells z0.cells (grownCap w (n + m) cap e' - (n + m)) := ⟨_, rfl⟩
                 have hge := grownCap_ge w (n + m) cap e'
                 have hCs : C2.size = grownCap w (n + m) cap e' * ei'.size := by
                   rw [hC2]
                   simp only [Array.size_append, size_zeroCells, List.size_toArray, n1, o1, hzs]
                   rw [<- Nat.add_mul, <- Nat.add_mul]
                   congr 1
                   omega
                 rw [<- hC2]
                 have hle2 : (n + m) * ei'.size <= C2.size := by rw [hCs]; exact Nat.mul_le_mul_right _ hge
                 have hone : ones C2 := by
                   have q1 := zdk hsp o1 (fun i j hi hj => by obtain ⟨v, v1, v2, _⟩ := o4 i j hi hj; exact ⟨v, v1, v2⟩)
                   have q2 := zdk hsp n1 (fun i j hi hj => by obtain ⟨v, v1, v2, _⟩ := n4 i j hi hj; exact ⟨v, v1, v2⟩)
                   have q3 : ∀ v ∈ (Builtin.zeroCells z0.cells (grownCap w (n + m) cap e' - (n + m))).toList, one v := zdk hsp (by simp [size_zeroCells, hzs]) (fun i j hi hj => ⟨_, zfr hzs hi hj, i4 _ _ (getD_some (by omega))⟩)
                   exact zgw hC2 q1 q2 q3
                 have hnew' := hw.new (hd _ hdst) hnew (.row e' ei'.size (n + m) (fun i j => L3 std znf (L2 std zbg i n) (get (L2 std Nat.add off i) j) (src (L2 std Nat.sub i n) j))) C2 e' (n + m) (by simp) (zi0 hw hle2 hone (fun i j hi hj => by
                   by_cases hin : i < n
                   · obtain ⟨v, v1, v2, v3⟩ := o4 i j hin hj
                     have hlt := (List.getElem?_eq_some_iff.1 v1).1
                     refine ⟨v, ?_, v2, ?_⟩
                     · rw [hC2, Array.append_assoc, Array.getElem?_append_left (by simpa using hlt)]
                       simpa using v1
                     · have : L2 std zbg i n = true := by show zbg i n = true; rw [zbn]; exact hin
                       rw [this]; exact v3
                   · obtain ⟨v, v1, v2, v3⟩ := n4 (i - n) j (by omega) hj
                     have hlt := (List.getElem?_eq_some_iff.1 v1).1
                     have hi1 : i * ei'.size = n * ei'.size + (i - n) * ei'.size := by rw [<- Nat.add_mul]; congr 1; omega
                     refine ⟨v, ?_, v2, ?_⟩
                     · rw [hC2, Array.append_assoc, Array.getElem?_append_right (by simp [o1]; omega), Array.getElem?_append_left (by simp [o1]; omega)]
                       simp only [List.size_toArray, o1, List.getElem?_toArray]
                       rw [show i * ei'.size + j - n * ei'.size = (i - n) * ei'.size + j by omega]
                       exact v1
                     · have : L2 std zbg i n = false := by
                         show zbg i n = false
                         cases hx : zbg i n with
                         | false => rfl
                         | true => exact absurd (zas hx) hin
                       rw [this]; exact v3))
                 refine hK _ _ ⟨_, _, hnew'.put hd ?_⟩
                 have := R.sl (h := (w.drew.alloc (.cells C2 e')).heap) (D := D) (μ := fun id => if id = d then some (some (w.drew.heap.size, C2.size, n + m)) else μ id) d ei'.size 0 (n + m) w.heap.size C2.size (n + m) (grownCap w (n + m) cap e') (by simp) hge (by rw [hCs]; simp) (by omega)
                 simpa using this
             · trivial
           · trivial
         · trivial
       · trivial
     · trivial
   · trivial
 · trivial
theorem zqp (hT : zbw P T) {x y : Operand} {ts : Array TypeId} {t t' : Nat} (hts : ts.toList = [t, t']) (e : o.op = .call { callee := .builtin .append, args := #[x, y], argTypes := ts }) {vals : List AV}
   (hv : Ops w.heap D μ a [x, y] vals) {ob : Nat -> Option Ob} (hob : ∀ id z, ob id = some z -> g id = some z) :
   zcg P base M W nt f g c o a w (zjg T std o.dst t t' ob (zds g o.op o.dst) vals) := by
 obtain rfl : ts = #[t, t'] := by apply Array.ext'; simpa using hts
 unfold zjg
 split
 · rename_i sz n get xv
   obtain ⟨hs, hv, _⟩ := hv
   split
   · rename_i d hc
     obtain ⟨hn, hdst⟩ := zcl hc
     have hnew : g d = none := by
       simp only [zds, e, zd0, hdst] at hn
       cases hg : g d with
       | none => rfl
       | some _ => rw [hg] at hn; cases hn
     split
     · rename_i sz0 ag ze e' esz eb eqf p1 p2 p3 hi
       obtain ⟨ok1, ok2⟩ := (hT t _ hi).k
       obtain ⟨ei', hei', hes⟩ := Option.map_eq_some_iff.1 ok2
       simp only [Prod.mk.injEq] at hes
       obtain ⟨hes1, hes2⟩ := hes
       subst hes1; subst hes2
       split
       · rename_i m src hsrc
         have c1 : zde T t' = true := by cases hx : zde T t' <;> simp_all
         have c2 : zbm 1 ei'.size = true := by cases hx : zbm 1 ei'.size <;> simp_all
         have c3 : (T.find e').isSome = true := by cases hx : (T.find e').isSome <;> simp_all
         rw [c1, c2, c3] at hsrc
         simp only [cond_true] at hsrc
         have hni := zj0 hT c1
         have hsp := zb3 c2
         obtain ⟨eti, heti⟩ := Option.isSome_iff_exists.1 c3
         obtain ⟨ii, z0, i1, i2, i3, i4, i5, i6⟩ := (hT e' eti heti).info
         rw [hei'] at i1
         cases i1
         have hzs : z0.cells.size = ei'.size := by rw [i5, <- i2]
         split
         · rename_i hsz
           obtain rfl := za1 hsz
           intro hb
           have hb : (zbg 0 m && zco ei'.bytes n m) = true := hb
           simp only [zco, Bool.and_eq_true, decide_eq_true_eq, zbn] at hb
           obtain ⟨hm, hr1, hr2⟩ := hb
           obtain ⟨news, n1, n2, n3, n4⟩ := zfu (P := P) h hob hsrc hv
           obtain ⟨olds, o1, o2, _, o4⟩ := zfu (P := P) (esz := ei'.size) (m := n) (x := .lst ei'.size n get) (src := get) (ob := g) h (fun _ _ h => h) (by simp only [zcs, za3]) hs.lessx
           have run : ∀ u w', (Builtin.append_ #[t, t'] o.type #[a.eval x, a.eval y]).run P w = .ok u w' -> (execOp a.eval o).run P w = .ok (.value u) w' := by
             intro u w' hu
             unfold execOp
             rw [e]
             simp [resolve, invoke, builtin, hu]
           obtain ⟨base', hbase⟩ : ∃ base', a.eval x = .slice base' n n := by
             generalize a.eval x = u at hs
             cases hs with
             | lstx _ _ _ ad r => exact ⟨_, rfl⟩
           rw [hbase] at o2 run
           have hg0 : n < n + m := by omega
           have hrun := zc5 (P := P) w t t' o.type e' ei' z0 ok1 hni hei' i3 base' n n (a.eval y) m olds news o2 n2 n3 hg0 hr2 (growslice_fits hg0 hr1)
           intro K Q hK
           unfold Oper.wp
           rw [run _ _ hrun]
           have hw : Sim base M W nt f g c a w.drew D μ := h.drew
           obtain ⟨C2, hC2⟩ : ∃ C2, C2 = olds.toArray ++ news.toArray ++ Builtin.zeroCells z0.cells (grownCap w (n + m) n e' - (n + m)) := ⟨_, rfl⟩
           have hge := grownCap_ge w (n + m) n e'
           have hCs : C2.size = grownCap w (n + m) n e' * ei'.size := by
             rw [hC2]
             simp only [Array.size_append, size_zeroCells, List.size_toArray, n1, o1, hzs]
             rw [<- Nat.add_mul, <- Nat.add_mul]
             congr 1
             omega
           rw [<- hC2]
           have hle2 : (n + m) * ei'.size <= C2.size := by rw [hCs]; exact Nat.mul_le_mul_right _ hge
           have hone : ones C2 := by
             have q1 := zdk hsp o1 (fun i j hi hj => by obtain ⟨v, v1, v2, _⟩ := o4 i j hi hj; exact ⟨v, v1, v2⟩)
             have q2 := zdk hsp n1 (fun i j hi hj => by obtain ⟨v, v1, v2, _⟩ := n4 i j hi hj; exact ⟨v, v1, v2⟩)
             have q3 : ∀ v ∈ (Builtin.zeroCells z0.cells (grownCap w (n + m) n e' - (n + m))).toList, one v := zdk hsp (by simp [size_zeroCells, hzs]) (fun i j hi hj => ⟨_, zfr hzs hi hj, i4 _ _ (getD_some (by omega))⟩)
             exact zgw hC2 q1 q2 q3
           have hnew' := hw.new (hd _ hdst) hnew (.row e' ei'.size (n + m) (fun i j => zer std (L2 std zbg i n) (get i j) (src (L2 std Nat.sub i n) j))) C2 e' (n + m) (by simp) (zi0 hw hle2 hone (zpv (C := fun k => C2[k]?) (fun i j hi hj => by
               obtain ⟨v, v1, v2, v3⟩ := o4 i j hi hj
               have hlt := (List.getElem?_eq_some_iff.1 v1).1
               refine ⟨v, ?_, v2, v3⟩
               rw [hC2, Array.append_assoc, Array.getElem?_append_left (by simpa using hlt)]
               simpa using v1) (fun i j hi hj => by
               obtain ⟨v, v1, v2, v3⟩ := n4 i j hi hj
               have hlt := (List.getElem?_eq_some_iff.1 v1).1
               refine ⟨v, ?_, v2, v3⟩
               rw [hC2, Array.append_assoc, Array.getElem?_append_right (by simp [o1]), Array.getElem?_append_left (by simp [o1]; omega)]
               simp [o1, v1])))
           refine hK _ _ ⟨_, _, hnew'.put hd ?_⟩
           show R _ _ _ (.sl d ei'.size 0 (n + m)) _
           have := R.sl (h := (w.drew.alloc (.cells C2 e')).heap) (D := D) (μ := fun id => if id = d then some (some (w.drew.heap.size, C2.size, n + m)) else μ id) d ei'.size 0 (n + m) w.heap.size C2.size (n + m) (grownCap w (n + m) n e') (by simp) hge (by rw [hCs]; simp) (by omega)
           simpa using this
         · trivial
       · trivial
     · trivial
   · trivial
 · trivial
theorem zqq (hT : zbw P T) {x y : Operand} {ts : Array TypeId} {t t' : Nat} (hts : ts.toList = [t, t']) (e : o.op = .call { callee := .builtin .append, args := #[x, y], argTypes := ts }) {vals : List AV}
   (hv : Ops w.heap D μ a [x, y] vals) {ob : Nat -> Option Ob} (hob : ∀ id z, ob id = some z -> g id = some z) (p : Nat) :
   zcg P base M W nt f g c o a w (zjh T std p t t' ob vals) := by
 obtain rfl : ts = #[t, t'] := by apply Array.ext'; simpa using hts
 unfold zjh
 split
 · rename_i sz n get xv
   obtain ⟨hs, hv, _⟩ := hv
   split
   · rename_i sz0 ag ze e' esz eb eqf p1 p2 p3 hi
     obtain ⟨ok1, ok2⟩ := (hT t _ hi).k
     obtain ⟨ei', hei', hes⟩ := Option.map_eq_some_iff.1 ok2
     simp only [Prod.mk.injEq] at hes
     obtain ⟨hes1, hes2⟩ := hes
     subst hes1; subst hes2
     split
     · rename_i m src hsrc
       have c1 : zde T t' = true := by cases hx : zde T t' <;> simp_all
       have c2 : zbm 1 ei'.size = true := by cases hx : zbm 1 ei'.size <;> simp_all
       have c3 : (T.find e').isSome = true := by cases hx : (T.find e').isSome <;> simp_all
       rw [c1, c2, c3] at hsrc
       simp only [cond_true] at hsrc
       have hni := zj0 hT c1
       have hsp := zb3 c2
       obtain ⟨eti, heti⟩ := Option.isSome_iff_exists.1 c3
       obtain ⟨ii, z0, i1, i2, i3, i4, i5, i6⟩ := (hT e' eti heti).info
       rw [hei'] at i1
       cases i1
       have hzs : z0.cells.size = ei'.size := by rw [i5, <- i2]
       split
       · rename_i ty szt n0 len get0 hsz hg
         have hg := hob _ _ hg
         obtain rfl := za1 hsz
         split
         · rename_i hty hszt
           obtain rfl := za1 hty
           obtain rfl := za1 hszt
           intro hb
           have hb : (za8 n 0 && zco ei'.bytes 0 m) = true := hb
           simp only [zco, Bool.and_eq_true, decide_eq_true_eq] at hb
           obtain ⟨hn0, hr1, hr2⟩ := hb
           obtain rfl := za1 hn0
           obtain ⟨news, n1, n2, n3, n4⟩ := zfu (P := P) h hob hsrc hv
           have run : ∀ u w', (Builtin.append_ #[t, t'] o.type #[a.eval x, a.eval y]).run P w = .ok u w' -> (execOp a.eval o).run P w = .ok (.value u) w' := by
             intro u w' hu
             unfold execOp
             rw [e]
             simp [resolve, invoke, builtin, hu]
           obtain ⟨ad, hbase⟩ : ∃ ad, a.eval x = .slice ad 0 0 := by
             generalize a.eval x = u at hs
             cases hs with
             | lstx _ _ _ ad r => exact ⟨_, rfl⟩
           rw [hbase] at run
           have hmem := h.tbs.mem hg (k := n0)
           rw [if_neg (Nat.lt_irrefl n0)] at hmem
           obtain ⟨q1, q2, q3⟩ := zov (n' := n0 + 1) (len' := fun k => yai (za8 k n0) m (len k)) (get' := fun k i' j => zer std (L2 std za8 k n0) (src i' j) (get0 k i' j)) h.tbs hg (k := n0)
             (fun j hj => by omega) (fun j hj => by show cond (za8 j n0) m (len j) = len j; rw [zak hj]; rfl) (fun j hj i' q hp D2 μ2 v2 r => yiz _ r _ _ hj)
           rw [if_pos (Nat.lt_succ_self n0)] at q1
           have hlen : yai (za8 n0 n0) m (len n0) = m := by rw [za3]; rfl
           have hpin := zrk (h.tbs p _ hg).1 n0
           intro K Q hK
           unfold Oper.wp
           have hfc : ∀ w', (Builtin.firstCells ei'.size 0 (.slice ad 0 0)).run P w' = .ok #[] w' := by
             intro w'
             cases ad <;> simp [Builtin.firstCells, loadCells, loadCellsFrom]
           by_cases hm0 : m = 0
           · subst hm0
             have hnil : news = [] := by apply List.eq_nil_of_length_eq_zero; rw [n1]; simp
             subst hnil
             have hr := zd7 (P := P) w t t' o.type ty ei' ok1 hni hei' ad 0 0 (a.eval y) 0 [] n2 n3 (by omega) (w' := w) (fun ad _ => rfl) (fun _ => rfl)
             rw [run _ _ hr]
             rw [hlen] at q1
             exact hK _ _ ⟨_, _, (h.newNilG hpin hmem q1 q2 q3).put hd (.aslv _ _ _ _ (by simp))⟩
           · have hg0 : 0 < 0 + m := by omega
             have hrun := zc5 (P := P) w t t' o.type ty ei' z0 ok1 hni hei' i3 ad 0 0 (a.eval y) m [] news (fun w' _ => hfc w') n2 n3 hg0 hr2 (growslice_fits hg0 hr1)
             rw [run _ _ hrun]
             have hw : Sim base M W nt f g c a w.drew D μ := h.drew
             obtain ⟨C2, hC2⟩ : ∃ C2, C2 = ([] : List Value).toArray ++ news.toArray ++ Builtin.zeroCells z0.cells (grownCap w (0 + m) 0 ty - (0 + m)) := ⟨_, rfl⟩
             have hge := grownCap_ge w (0 + m) 0 ty
             have hCs : C2.size = grownCap w (0 + m) 0 ty * ei'.size := by
               clear q1 q2 q3 hlen hpin hmem
               rw [hC2]
               simp only [Array.size_append, size_zeroCells, List.size_toArray, List.length_nil, n1, hzs]
               rw [Nat.zero_add, <- Nat.add_mul]
               congr 1
               omega
             rw [<- hC2]
             have hle2 : m * ei'.size <= C2.size := by rw [hCs]; exact Nat.mul_le_mul_right _ (by omega)
             have hone : ones C2 := by
               have q2 := zdk hsp n1 (fun i j hi hj => by obtain ⟨v, v1, v2, _⟩ := n4 i j hi hj; exact ⟨v, v1, v2⟩)
               have q3 : ∀ v ∈ (Builtin.zeroCells z0.cells (grownCap w (0 + m) 0 ty - (0 + m))).toList, one v := zdk hsp (by simp [size_zeroCells, hzs]) (fun i j hi hj => ⟨_, zfr hzs hi hj, i4 _ _ (getD_some (by omega))⟩)
               exact zgw hC2 (fun v hv => by simp at hv) q2 q3
             have hrow := zi0 (t := ty) hw hle2 hone (sz := ei'.size) (n := m) (get := src) (fun i j hi hj => by
               obtain ⟨v, v1, v2, v3⟩ := n4 i j hi hj
               have hlt := (List.getElem?_eq_some_iff.1 v1).1
               refine ⟨v, ?_, v2, v3⟩
               rw [hC2, Array.append_assoc, Array.getElem?_append_right (by simp), Array.getElem?_append_left (by simpa using hlt)]
               simpa using v1)
             have h1 := hw.newG hpin hmem (.row ty ei'.size (yai (za8 n0 n0) m (len n0)) (fun i' j => zer std (L2 std za8 n0 n0) (src i' j) (get0 n0 i' j))) (.cells C2 ty) C2.size m (by simp) q1 q2 q3 (by
               rw [hlen]
               obtain ⟨_, cc, t', fr, k1, k2, k3, k4, k5⟩ := hrow
               refine ⟨rfl, cc, t', fr, k1, k2, k3, k4, fun i' j hi' hj => ?_⟩
               obtain ⟨v, v1, v2, v3⟩ := k5 i' j hi' hj
               exact ⟨v, v1, v2, by rw [show L2 std za8 n0 n0 = true from za3 n0]; exact zch v3 _⟩)
             have hr := R.asl (h := (w.drew.alloc (.cells C2 ty)).heap) (D := D) (μ := fun id => if id = mid p n0 then some (some (w.drew.heap.size, C2.size, m)) else μ id) p n0 ei'.size 0 m w.heap.size C2.size m (grownCap w (0 + m) 0 ty) (by simp) (by omega) (by rw [hCs]; simp) (by omega)
             rw [Nat.zero_mul] at hr
             rw [Nat.zero_add] at hr |-
             exact hK _ _ ⟨_, _, h1.put hd hr⟩
         · trivial
       · trivial
     · trivial
   · trivial
 · trivial
theorem zxe (hT : zbw P T) {t : Nat} {r : List Nat} {x : Operand} {ts : Array TypeId} (hts : ts.toList = t :: r) (e : o.op = .call { callee := .builtin .clear, args := #[x], argTypes := ts }) {vals : List AV} (hv : Ops w.heap D μ a [x] vals)
   {ob : Nat -> Option Ob} (hob : ∀ id z, ob id = some z -> g id = some z) {ice : Nat -> Bool} (hice : ∀ id, ice id = false -> c id = false) :
   zcg P base M W nt f g c o a w (ye8 T std t ob ice vals) := by
 have h0 : ts[0]? = some t := by rw [<- Array.getElem?_toList, hts]; rfl
 match vals, hv with
 | [v], ⟨hv, _⟩ =>
   unfold ye8
   simp only
   split
   · rename_i id sz off n sz0 ag ze e' esz eb eqf p1 p2 p3 hsl hi
     have hv : R w.heap D μ (.sl id sz off n) (a.eval x) := by
       unfold slOf at hsl
       split at hsl
       · cases hsl; exact hv
       · cases hsl; exact hv.less
       · cases hsl
     obtain ⟨ok1, ok2⟩ := (hT t _ hi).k
     obtain ⟨ei', hei', hes⟩ := Option.map_eq_some_iff.1 ok2
     simp only [Prod.mk.injEq] at hes
     obtain ⟨hes1, hes2⟩ := hes
     subst hes1; subst hes2
     split
     · rename_i ei ty sz' k get hei hsz c2 hic hg
       obtain rfl := za1 hsz
       have hg := hob _ _ hg
       have hic := hice _ hic
       split
       · rename_i hsz' hfr
         obtain rfl := za1 hsz'
         obtain ⟨ii, z0, i1, i2, i3, i4, i5, i6⟩ := (hT e' ei hei).info
         rw [hei'] at i1
         cases i1
         have hzs : z0.cells.size = ei'.size := by rw [i5, <- i2]
         have hzl : ei.zero.length = ei'.size := by rw [(i6 w.heap D μ).1, hzs]
         have run : ∀ u w', (Builtin.clear_ ts o.type #[a.eval x]).run P w = .ok u w' -> (execOp a.eval o).run P w = .ok (.value u) w' := by
           intro u w' hu
           unfold execOp
           rw [e]
           simp [resolve, invoke, builtin, hu]
         have none0 : ∀ ad cap, n = 0 -> a.eval x = .slice ad 0 cap -> Adv P base M W nt f g c o a w (.tup []) [(id, .row ty ei'.size k (fun i j => L3 std znf (L3 std zes off n i) (zbb .dead ei.zero j) (get i j)))] [] := by
           intro ad cap hn hu K Q hK
           unfold Oper.wp
           rw [run (.tuple #[]) w (by rw [hu]; cases ad <;> simp [Builtin.clear_, h0, run_underlying ok1])]
           have e1 : (fun i j => L3 std znf (L3 std zes off n i) (zbb .dead ei.zero j) (get i j)) = get := by
             funext i j
             have : L3 std zes off n i = false := by
               subst hn
               show (zbm off i && zbg i (off + 0)) = false
               cases hq : (zbm off i && zbg i (off + 0)) with
               | false => rfl
               | true =>
                 rw [Bool.and_eq_true, zbn, zdz] at hq
                 omega
             rw [this]; rfl
           rw [e1] at hK
           have e2 : zbe g [(id, .row ty ei'.size k get)] = g := by
             funext q
             by_cases hq : q = id
             · subst hq; simp [zbe, za2, za3, hg]
             · simp [zbe, za2, zak (fun x => hq x.symm : ¬ id = q)]
           rw [e2] at hK
           exact hK _ _ ⟨_, _, h.put hd (.tup [] #[] rfl (fun i x v hx => by simp at hx))⟩
         generalize hu : a.eval x = u at hv
         cases hv with
         | slv _ _ ad => exact none0 _ _ rfl hu
         | sl0 => exact none0 _ _ rfl hu
         | sl _ _ _ _ b z mm cap hμ hn hz ho =>
           by_cases hn0 : n = 0
           · subst hn0; exact none0 _ _ rfl hu
           have hm := (h.obs id _ _ hg hμ).1
           subst hm
           obtain ⟨w', hst, hsim⟩ := h.seg (P := P) hμ hg hic (zb3 c2) (off := off) (m := n) (src := fun _ j => zbb .dead ei.zero j) (news := (Builtin.zeroCells z0.cells n).toList) ho (by simp [size_zeroCells, hzs]) (fun i j hi hj => by
             refine ⟨_, zfr hzs hi hj, i4 _ _ (getD_some (by omega)), ?_⟩
             exact zdb ((i6 w.heap D μ).2 j _ _ (zal .dead ei.zero j (by omega)) (getD_some (by omega))) (zck hfr _ _ (zal _ _ _ (by omega))))
           intro K Q hK
           unfold Oper.wp
           rw [run (.tuple #[]) w' (by
             rw [hu]
             cases n with
             | zero => exact absurd rfl hn0
             | succ n => simp [Builtin.clear_, h0, run_underlying ok1, zeroValue, typeInfo, program, Sem.run, hei', i3, hst])]
           exact hK _ _ ⟨_, _, hsim.put hd (.tup [] #[] rfl (fun i x v hx => by simp at hx))⟩
       · trivial
     · trivial
   · trivial
end
end Sy
end Go.Proofs.YtfonekpmkdkgnaaGreatDoor
namespace Go.Proofs.YtfonekpmkdkgnaaGreatDoor
namespace Sy
open Go Go.RowKit
set_option linter.unusedSimpArgs false
set_option linter.unusedVariables false
theorem ycj : ∀ {x y : List UInt8}, yon x y = true -> x = y
 | [], [], _ => rfl
 | [], _ :: _, e => by cases e
 | _ :: _, [], e => by cases e
 | a :: x, b :: y, e => by
   unfold yon at e
   split at e
   · rename_i h
     rw [UInt8.toNat_inj.1 (za1 h), ycj e]
   · cases e
theorem zrf : ∀ x : List UInt8, yon x x = true
 | [] => rfl
 | a :: x => by unfold yon; rw [za3]; exact zrf x
theorem zo9 {a b : Ky} (e : kyb a b = true) : a = b := by
 unfold kyb at e
 split at e
 · rw [of_decide_eq_true e]
 · rw [ycj e]
 · cases e
theorem yck {a b : Ky} (h : ¬ a = b) : kyb a b = false := by
 cases e : kyb a b with
 | true => exact absurd (zo9 e) h
 | false => rfl
theorem yh4 {kk : KK} {v : Value} {k : Ky} (h : zws kk v k) (hp : zo4 kk = true) : kyb k k = true := by
 cases kk with
 | i ik => obtain ⟨n, rfl, rfl⟩ := h; simp [kyb]
 | s => obtain ⟨n, rfl, rfl⟩ := h; exact zrf _
 | a ks => cases hp
 | no => cases hp
theorem zrg {q : Ky} (hq : kyb q q = true) (v : AV) (k' : Ky) : ∀ l, zbc (zvw l q v) k' = if k' = q then some v else zbc l k'
 | [] => by
   simp only [zvw, zbc]
   by_cases h : k' = q
   · subst h; rw [hq, if_pos rfl]
   · rw [yck (fun e => h e.symm), if_neg h]
 | (k, x) :: r => by
   unfold zvw
   split
   · rename_i h
     obtain rfl := zo9 h
     simp only [zbc]
     by_cases h : k' = k
     · subst h; rw [hq, if_pos rfl]
     · rw [yck (fun e => h e.symm), if_neg h]
   · rename_i h
     simp only [zbc]
     rw [zrg hq v k' r]
     by_cases h' : k' = q
     · subst h'; rw [h, if_pos rfl]
     · rw [if_neg h', if_neg h']
theorem zrh {q : Ky} {x : AV} : ∀ {l}, zbc l q = some x -> q ∈ l.map Prod.fst
 | [], e => by cases e
 | (k, y) :: r, e => by
   unfold zbc at e
   split at e
   · rename_i h; rw [zo9 h]; simp
   · simp [zrh e]
theorem zr8 {q : Ky} (hq : kyb q q = true) : ∀ {l}, q ∈ l.map Prod.fst -> (zbc l q).isSome = true
 | [], e => by simp at e
 | (k, y) :: r, e => by
   unfold zbc
   split
   · rfl
   · rename_i h
     simp only [List.map_cons, List.mem_cons] at e
     rcases e with rfl | e
     · rw [hq] at h; cases h
     · exact zr8 hq e
theorem zri {q : Ky} (k' : Ky) : ∀ l : List (Ky × AV), (l.map Prod.fst).Nodup -> zbc (ztu l q) k' = if k' = q then none else zbc l k'
 | [], _ => by simp [ztu, zbc]
 | (k, x) :: r, nd => by
   simp only [List.map_cons, List.nodup_cons] at nd
   unfold ztu
   split
   · rename_i h
     obtain rfl := zo9 h
     by_cases h' : k' = k
     · subst h'
       rw [if_pos rfl]
       cases e : zbc r k' with
       | none => rfl
       | some y => exact absurd (zrh e) nd.1
     · rw [if_neg h']; simp only [zbc]; rw [yck (fun e => h' e.symm)]
   · rename_i h
     simp only [zbc]
     rw [zri k' r nd.2]
     by_cases h' : k' = q
     · subst h'; rw [h, if_pos rfl]
     · rw [if_neg h', if_neg h']
theorem zmd {q : Ky} (v : AV) : ∀ l, (zvw l q v).map Prod.fst = if (zbc l q).isSome then l.map Prod.fst else l.map Prod.fst ++ [q]
 | [] => by simp [zvw, zbc]
 | (k, x) :: r => by
   unfold zvw zbc
   split
   · rename_i h; obtain rfl := zo9 h; simp
   · rename_i h
     simp only [List.map_cons, zmd v r]
     cases (zbc r q).isSome <;> simp
theorem zvv {q : Ky} (v : AV) (l : List (Ky × AV)) : (zvw l q v).length = if (zbc l q).isSome then l.length else l.length + 1 := by
 have := congrArg List.length (zmd (q := q) v l)
 rw [List.length_map] at this
 rw [this]
 cases (zbc l q).isSome <;> simp
theorem zya {q : Ky} (hq : kyb q q = true) (v : AV) {l : List (Ky × AV)} (nd : (l.map Prod.fst).Nodup) : ((zvw l q v).map Prod.fst).Nodup := by
 rw [zmd]
 cases e : (zbc l q).isSome with
 | true => simpa using nd
 | false =>
   simp only [Bool.false_eq_true, if_false]
   rw [List.nodup_append]
   refine ⟨nd, by simp, fun a ha b hb => ?_⟩
   simp only [List.mem_singleton] at hb
   subst hb
   rintro rfl
   rw [zr8 hq ha] at e
   cases e
theorem zvy {q : Ky} : ∀ l : List (Ky × AV), (ztu l q).Sublist l
 | [] => by simp [ztu]
 | (k, x) :: r => by
   unfold ztu
   split
   · exact List.sublist_cons_self _ _
   · exact (zvy r).cons_cons _
theorem zpu {q : Ky} : ∀ l : List (Ky × AV), (ztu l q).length = if (zbc l q).isSome then l.length - 1 else l.length
 | [] => by simp [ztu, zbc]
 | (k, x) :: r => by
   unfold ztu zbc
   split
   · simp
   · simp only [List.length_cons, zpu r]
     cases e : zbc r q with
     | none => simp
     | some y =>
       have : r ≠ [] := by rintro rfl; cases e
       have := List.length_pos_iff.2 this
       simp only [Option.isSome_some, if_true]
       omega
def ysa (h : Array Obj) (D : Nat -> Prop) (μ : Mu) (kk : KK) (l : List (Ky × AV)) (b : Nat) (es : Array MapEntry) (clock : Nat) (kf : Nat -> Ky) : Prop :=
 h[b]? = some (.map es clock) /\ es.size = l.length /\ zfq kk (fun k => (zbc l k).isSome) es clock kf /\ (l.map Prod.fst).Nodup /\ ∀ (i : Nat) e, es[i]? = some e -> ∃ x, zbc l (kf i) = some x /\ R h D μ x e.val
theorem ykc {h : Array Obj} {D : Nat -> Prop} {μ : Mu} (ob : Nat -> Option Ob) {x : AV} {v : Value} (r : R h D μ x v) : R h D μ (ya2 ob x) v := by
 unfold ya2
 split
 · split
   · exact .dead _
   · exact r
 · exact r
theorem ya1 {h : Array Obj} {D : Nat -> Prop} {μ : Mu} (ob : Nat -> Option Ob) : ∀ (cs : List AV) (us : List Value), cs.length = us.length -> (∀ (i : Nat) x v, cs[i]? = some x -> us[i]? = some v -> R h D μ x v) ->
   (zcw (ya2 ob) cs).length = us.length /\ ∀ (i : Nat) x v, (zcw (ya2 ob) cs)[i]? = some x -> us[i]? = some v -> R h D μ x v
 | [], [], _, _ => ⟨rfl, fun i x v hx => by simp [zcw] at hx⟩
 | [], _ :: _, e, _ => by simp at e
 | _ :: _, [], e, _ => by simp at e
 | x :: cs, v :: us, e, hr => by
   obtain ⟨h1, h2⟩ := ya1 ob cs us (by simpa using e) (fun i x v hx hv => hr (i + 1) x v (by simpa using hx) (by simpa using hv))
   refine ⟨by simp [zcw, h1], fun i y u hy hu => ?_⟩
   cases i with
   | zero => simp [zcw] at hy hu; subst hy hu; exact ykc ob (hr 0 x v rfl rfl)
   | succ i => simp [zcw] at hy hu; exact h2 i y u hy hu
theorem ykb {h : Array Obj} {D : Nat -> Prop} {μ : Mu} (ob : Nat -> Option Ob) {x : AV} {v : Value} (r : R h D μ x v) : R h D μ (yez ob x) v := by
 unfold yez
 split
 · obtain ⟨us, rfl, o1, r1⟩ := r.inv_agg
   obtain ⟨h1, h2⟩ := ya1 (h := h) (D := D) (μ := μ) ob _ us.toList (by rw [r1.1]; simp) (fun i x v hx hv => r1.2 i x v hx (by simpa using hv))
   exact .agg _ _ (by simpa using h1) o1 (fun i x v hx hv => h2 i x v hx (by simpa using hv))
 · exact r
theorem zvc {h : Array Obj} {D : Nat -> Prop} {μ : Mu} {a : Act} {ob : Nat -> Option Ob} : ∀ {l : List Operand} {vals : List AV}, Ops h D μ a l vals -> Ops h D μ a l (zcw (yez ob) vals)
 | [], [], _ => trivial
 | [], _ :: _, hv => hv.elim
 | _ :: _, [], hv => hv.elim
 | _ :: _, _ :: _, hv => ⟨ykb ob hv.1, zvc hv.2⟩
theorem zvz {P : Program} {T : TT} (hT : zbw P T) {kt : Nat} (e : zyd T kt = true) : ∃ e, P.underlying kt = some (.pointer e) := by
 unfold zyd at e
 split at e
 · rename_i hf; exact (hT _ _ hf).k
 · cases e
theorem yc7 {ob : Nat -> Option Ob} {vals : List AV} {id : Nat} {q : Bool} (e : yoj ob vals = some (id, q)) : ∃ r, vals = .mp id :: r /\ ob id = some (.mapq q) := by
 unfold yoj at e
 split at e
 · rename_i id' r
   split at e
   · rename_i h; cases e; exact ⟨r, rfl, h⟩
   · cases e
 · cases e
theorem zv8 {P : Program} {kt : Nat} {e : TypeId} (hu : P.underlying kt = some (.pointer e)) (v : Value) (w : World) :
   (∀ b, (Instr.checkKey b 10000 kt v).run P w = .ok () w) /\ (Instr.findKey kt v []).run P w = .ok none w := by
 refine ⟨fun b => ?_, MapKept.run_findKey hu rfl⟩
 unfold Instr.checkKey
 simp only [Sem.run_bind, run_underlying hu, Result.andThen]
 rfl
theorem zpm {ob : Nat -> Option Ob} {vals : List AV} {id : Nat} {kk : KK} {l : List (Ky × AV)} (e : yew ob vals = some (id, kk, l)) : ∃ r, vals = .mp id :: r /\ ob id = some (.mapl kk l) := by
 unfold yew at e
 split at e
 · rename_i id' r
   split at e
   · rename_i h; cases e; exact ⟨r, rfl, h⟩
   · cases e
 · cases e
section
variable {P : Program} {T : TT} {base : Nat} {M : Two} {W : World} {nt : Nat} {f : Nat -> Option AV} {g : Nat -> Option Ob} {c : Nat -> Bool} {a : Act} {w : World} {D : Nat -> Prop} {μ : Mu} {o : Oper}
variable (h : Sim base M W nt f g c a w D μ) (hd : ∀ d, o.dst = some d -> d < nt)
include h hd
theorem zx6 (hT : zbw P T) {t : TypeId} (e : o.op = .makeMap t none) : zcg P base M W nt f g c o a w (ye0 T o.dst t (zds g o.op o.dst)) := by
 unfold ye0
 split
 · rename_i d hc
   obtain ⟨hn, hdst⟩ := zcl hc
   have hnew : g d = none := by
     simp only [zds, e, zd0, hdst] at hn
     cases hg : g d with
     | none => rfl
     | some _ => rw [hg] at hn; cases hn
   split
   · rename_i sz ag ze kt et eqf p1 p2 p3 hi
     have run : (execOp a.eval o).run P w = .ok (.value (.map (some w.heap.size))) (w.alloc (.map #[] 0)) := by
       unfold execOp
       rw [e]
       simp [Instr.makeMap]
     intro K Q hK
     unfold Oper.wp
     rw [run]
     have h1 := h.newO (hd _ hdst) hnew (.mapl (zhw T kt) []) (.map #[] 0) 0 0 (by simp)
       ⟨#[], 0, fun _ => .i 0, heap_alloc_new _ _, rfl, ⟨fun i x hx => (by simp at hx), fun k hk => (by cases hk), MapKept.stamped_empty 0⟩, List.nodup_nil, fun i x hx => (by simp at hx)⟩
     exact hK _ _ ⟨_, _, h1.put hd (.mp _ _ 0 0 (by simp))⟩
   · trivial
 · trivial
theorem zx5 (hT : zbw P T) {t : TypeId} (e : o.op = .makeMap t none) : zcg P base M W nt f g c o a w (ydz T o.dst t (zds g o.op o.dst)) := by
 unfold ydz
 split
 · rename_i d hc
   obtain ⟨hn, hdst⟩ := zcl hc
   have hnew : g d = none := by
     simp only [zds, e, zd0, hdst] at hn
     cases hg : g d with
     | none => rfl
     | some _ => rw [hg] at hn; cases hn
   split
   · rename_i sz ag ze kt et eqf p1 p2 p3 hi
     have run : (execOp a.eval o).run P w = .ok (.value (.map (some w.heap.size))) (w.alloc (.map #[] 0)) := by
       unfold execOp
       rw [e]
       simp [Instr.makeMap]
     intro K Q hK
     unfold Oper.wp
     rw [run]
     have h1 := h.newO (hd _ hdst) hnew (.mapq true) (.map #[] 0) 0 0 (by simp) ⟨#[], 0, heap_alloc_new _ _, fun _ => rfl⟩
     exact hK _ _ ⟨_, _, h1.put hd (.mp _ _ 0 0 (by simp))⟩
   · trivial
 · trivial
omit hd in
theorem yce {id : Nat} {q : Bool} (hg : g id = some (.mapq q)) {v : Value} (r : R w.heap D μ (.mp id) v) :
   ∃ b z m es clock, v = .map (some b) /\ μ id = some (some (b, z, m)) /\ w.heap[b]? = some (.map es clock) /\ (q = true -> es = #[]) := by
 cases r with
 | mp _ b z m hμ =>
   obtain ⟨es, clock, hh⟩ := h.obs id _ _ hg hμ
   exact ⟨b, z, m, es, clock, rfl, hμ, hh⟩
theorem zx7 (hT : zbw P T) {t : TypeId} {x y : Operand} {ok : Bool} (e : o.op = .lookup t x y ok) {vals : List AV} (hv : Ops w.heap D μ a [x, y] vals) {ob : Nat -> Option Ob} (hob : ∀ id z, ob id = some z -> g id = some z)
   {id : Nat} {q : Bool} (hm : yoj ob vals = some (id, q)) : zcg P base M W nt f g c o a w (ye1 T t ok q vals) := by
 obtain ⟨r, rfl, hg⟩ := yc7 hm
 match r, hv with
 | [k], ⟨hv, hk, _⟩ =>
   obtain ⟨b, z0, m, es, clock, hu', hμ, hb, hes⟩ := yce h (hob _ _ hg) hv
   unfold ye1
   simp only
   split
   · rename_i sz ag ze kt et eqf p1 p2 p3 hi
     have hu := (hT t _ hi).k
     simp only [kOk] at hu
     split
     · rename_i ei hei hptr
       obtain ⟨z, z1, z2⟩ := (hT et ei hei).zeroR
       have rz : R w.heap D μ (zge ei) z := z2 _ _ _
       intro hq
       have hes := hes hq
       subst hes
       obtain ⟨e', hu2⟩ := zvz hT hptr
       obtain ⟨f1, g2⟩ := zv8 hu2 (a.eval y) w
       have hrun : (Instr.lookup t (a.eval x) (a.eval y) ok).run P w = .ok (cond ok (.tuple #[z, .bool false]) z) w := by
         rw [hu']
         unfold Instr.lookup
         simp only [Sem.run_bind, run_underlying hu, Result.andThen_ok, MapKept.run_getObj_map hb, f1, g2, z1, Sem.run_pure, Array.toList]
         cases ok <;> rfl
       cases ok with
       | true =>
         refine za0 h hd (u := .tuple #[z, .bool false]) ?_ (.tup _ _ rfl (fun i x' v hx hv => ?_))
         · unfold execOp
           rw [e]
           simp [hrun]
         · match i with
           | 0 => simp at hx hv; subst hx; subst hv; exact rz
           | 1 => simp at hx hv; subst hx; subst hv; exact .bool _
           | i + 2 => simp at hx
       | false =>
         refine za0 h hd (u := z) ?_ rz
         unfold execOp
         rw [e]
         simp [hrun]
     · trivial
   · trivial
 | [], ⟨_, hv⟩ => exact hv.elim
theorem yaq (hT : zbw P T) {t : TypeId} {x y v : Operand} (e : o.op = .mapUpdate t x y v) {vals : List AV} (hv : Ops w.heap D μ a [x, y, v] vals) {ob : Nat -> Option Ob} (hob : ∀ id z, ob id = some z -> g id = some z) {ice : Nat -> Bool} (hice : ∀ id, ice id = false -> c id = false)
   {id : Nat} {q : Bool} (hm : yoj ob vals = some (id, q)) : zcg P base M W nt f g c o a w (ynk T t ice id q vals) := by
 obtain ⟨r, rfl, hg⟩ := yc7 hm
 have hg := hob _ _ hg
 match r, hv with
 | [k, val'], ⟨hm, hk, hx, _⟩ =>
   obtain ⟨b, z, m, es, clock, hum, hμ, hb, hes⟩ := yce h hg hm
   unfold ynk
   simp only
   split
   · rename_i sz ag ze kt et eqf p1 p2 p3 hi
     have hu := (hT t _ hi).k
     simp only [kOk] at hu
     split
     · rename_i hic hptr
       have hic := hice _ hic
       intro hq
       have hes := hes hq
       subst hes
       obtain ⟨e', hu2⟩ := zvz hT hptr
       obtain ⟨f1, g2⟩ := zv8 hu2 (a.eval y) w
       have hblt : b < w.heap.size := (Array.getElem?_eq_some_iff.1 hb).1
       have run : (execOp a.eval o).run P w = .ok .skip { w with heap := w.heap.setIfInBounds b (.map #[{ key := a.eval y, val := a.eval v, born := clock }] (clock + 1)) } := by
         unfold execOp
         rw [e]
         simp [hum, Instr.mapUpdate, run_underlying hu, MapKept.run_getObj_map hb, f1, g2, MapKept.run_setObj_map _ hb, Result.andThen]
       intro K Q hK
       unfold Oper.wp
       rw [run]
       have h1 := h.turn (ob' := .mapq false) (w' := { w with heap := w.heap.setIfInBounds b (.map #[{ key := a.eval y, val := a.eval v, born := clock }] (clock + 1)) }) hμ hg (by simp) trivial hic rfl rfl rfl (by simp) (fun k' hk' => by simp [Ne.symm hk'])
         (fun hD => ⟨_, _, by simp [hblt]; exact ⟨rfl, rfl⟩, fun h => by cases h⟩)
       exact hK _ _ ⟨_, _, h1.put hd (.dead _)⟩
     · trivial
   · trivial
 | [], ⟨_, hv⟩ => exact hv.elim
 | [_], ⟨_, _, hv⟩ => exact hv.elim
omit hd in
theorem zpp {id : Nat} {kk : KK} {l : List (Ky × AV)} (hg : g id = some (.mapl kk l)) {v : Value} (r : R w.heap D μ (.mp id) v) :
   ∃ b z m es clock kf, v = .map (some b) /\ μ id = some (some (b, z, m)) /\ ysa w.heap D μ kk l b es clock kf := by
 cases r with
 | mp _ b z m hμ =>
   obtain ⟨es, clock, kf, hh⟩ := h.obs id _ _ hg hμ
   exact ⟨b, z, m, es, clock, kf, rfl, hμ, hh⟩
theorem yax (hT : zbw P T) {x : Operand} {t : Nat} {r : List Nat} {ts : Array TypeId} (hts : ts.toList = t :: r) (e : o.op = .call { callee := .builtin .len, args := #[x], argTypes := ts }) {vals : List AV}
   (hv : Ops w.heap D μ a [x] vals) {ob : Nat -> Option Ob} (hob : ∀ id z, ob id = some z -> g id = some z) {id : Nat} {kk : KK} {l : List (Ky × AV)} (hm : yew ob vals = some (id, kk, l)) :
   zcg P base M W nt f g c o a w (ynp T t l vals) := by
 obtain ⟨q, rfl, hg⟩ := zpm hm
 match q, hv with
 | [], ⟨hv, _⟩ =>
   obtain ⟨b, z, m, es, clock, kf, hu, hμ, hb, hn, -⟩ := zpp h (hob _ _ hg) hv
   unfold ynp
   simp only
   split
   · rename_i sz ag ze kt et eqf p1 p2 p3 hi
     have ok := (hT t _ hi).k
     simp only [kOk] at ok
     have h0 : ts[0]? = some t := by rw [<- Array.getElem?_toList, hts]; rfl
     refine za0 h hd (u := .int .i64 l.length) ?_ (by rw [zai]; exact .int _ _)
     unfold execOp
     rw [e]
     simp [resolve, invoke, builtin, hu, Builtin.len_, h0, run_underlying ok, MapKept.run_getObj_map hb, Result.andThen, hn]
     rfl
   · trivial
theorem zx8 (hT : zbw P T) {t : TypeId} {x y : Operand} {ok : Bool} (e : o.op = .lookup t x y ok) {vals : List AV} (hv : Ops w.heap D μ a [x, y] vals) {ob : Nat -> Option Ob} (hob : ∀ id z, ob id = some z -> g id = some z)
   {id : Nat} {kk : KK} {l : List (Ky × AV)} (hm : yew ob vals = some (id, kk, l)) :
   zcg P base M W nt f g c o a w (ye2 T t ok kk l vals) := by
 obtain ⟨q, rfl, hg⟩ := zpm hm
 match q, hv with
 | [k], ⟨hv, hk, _⟩ =>
   obtain ⟨b, z0, m, es, clock, kf, hu', hμ, hb, hn, hks, hnd, hr⟩ := zpp h (hob _ _ hg) hv
   unfold ye2
   simp only
   split
   · rename_i sz ag ze kt et eqf p1 p2 p3 hi
     have hu := (hT t _ hi).k
     simp only [kOk] at hu
     split
     · rename_i ei hei
       obtain ⟨z, z1, z2⟩ := (hT et ei hei).zeroR
       have rz : R w.heap D μ (zge ei) z := z2 _ _ _
       have fin : ∀ (u : Value) (av : AV) (bb : Bool), (Instr.lookup t (a.eval x) (a.eval y) ok).run P w = .ok (cond ok (.tuple #[u, .bool bb]) u) w -> R w.heap D μ av u ->
           Adv P base M W nt f g c o a w (cond ok (.tup [av, .bool bb]) av) [] [] := by
         intro u av bb hrun ru
         cases ok with
         | true =>
           refine za0 h hd (u := .tuple #[u, .bool bb]) ?_ (.tup _ _ rfl (fun i x' v hx hv => ?_))
           · unfold execOp
             rw [e]
             simp [hrun]
           · match i with
             | 0 => simp at hx hv; subst hx; subst hv; exact ru
             | 1 => simp at hx hv; subst hx; subst hv; exact .bool _
             | i + 2 => simp at hx
         | false =>
           refine za0 h hd (u := u) ?_ ru
           unfold execOp
           rw [e]
           simp [hrun]
       split
       · rename_i key hkk hke
         obtain ⟨rfl, hp⟩ := zkb hkk
         have hkey := zyc hke hk
         obtain ⟨f1, f2, f3⟩ := zho hT hks hkey hp w
         rcases f3 with ⟨g1, g2, _⟩ | ⟨j, x', g1, g2, g3, g4, g5⟩
         · split
           · rename_i y' hy; rw [hy] at g1; cases g1
           · refine fin z _ false ?_ rz
             rw [hu']
             unfold Instr.lookup
             simp only [Sem.run_bind, run_underlying hu, Result.andThen_ok, MapKept.run_getObj_map hb, f1, g2, z1, Sem.run_pure]
             cases ok <;> rfl
         · obtain ⟨y', hy, ry⟩ := hr j x' g3
           rw [g2] at hy
           rw [hy]
           refine fin x'.val _ true ?_ ry
           rw [hu']
           unfold Instr.lookup
           simp only [Sem.run_bind, run_underlying hu, Result.andThen_ok, MapKept.run_getObj_map hb, f1, g5, Sem.run_pure]
           cases ok <;> rfl
       · trivial
     · trivial
   · trivial
 | [], ⟨_, hv⟩ => exact hv.elim
theorem yar (hT : zbw P T) {t : TypeId} {x y v : Operand} (e : o.op = .mapUpdate t x y v) {vals : List AV} (hv : Ops w.heap D μ a [x, y, v] vals) {ob : Nat -> Option Ob} (hob : ∀ id z, ob id = some z -> g id = some z) {ice : Nat -> Bool} (hice : ∀ id, ice id = false -> c id = false)
   {id : Nat} {kk : KK} {l : List (Ky × AV)} (hm : yew ob vals = some (id, kk, l)) :
   zcg P base M W nt f g c o a w (ynl T t ice id kk l vals) := by
 obtain ⟨q, rfl, hg⟩ := zpm hm
 have hg := hob _ _ hg
 match q, hv with
 | [k, val'], ⟨hm, hk, hx, _⟩ =>
   obtain ⟨b, z, m, es, clock, kf, hum, hμ, hb, hn, hks, hnd, hr⟩ := zpp h hg hm
   unfold ynl
   simp only
   split
   · rename_i sz ag ze kt et eqf p1 p2 p3 hi
     have hu := (hT t _ hi).k
     simp only [kOk] at hu
     split
     · rename_i key hic hkk hke
       have hic := hice _ hic
       obtain ⟨rfl, hp⟩ := zkb hkk
       have hkey := zyc hke hk
       have hq := yh4 hkey hp
       obtain ⟨f1, f2, f3⟩ := zho hT hks hkey hp w
       obtain ⟨es', clock', kf', hrun, hn', hks', hr'⟩ : ∃ es' clock' kf', (Instr.mapUpdate t (.map (some b)) (a.eval y) (a.eval v)).run P w = .ok () { w with heap := w.heap.setIfInBounds b (.map es' clock') } /\ es'.size = (zvw l key val').length /\
           zfq (zhw T kt) (fun k => (zbc (zvw l key val') k).isSome) es' clock' kf' /\ ∀ (i : Nat) e, es'[i]? = some e -> ∃ x, zbc (zvw l key val') (kf' i) = some x /\ R w.heap D μ x e.val := by
         simp only [zrg hq]
         rcases f3 with ⟨g1, g2, g3⟩ | ⟨j, x', g1, g2, g3, g4, g5⟩
         · refine ⟨es.push { key := a.eval y, val := a.eval v, born := clock }, clock + 1, fun i => if i = es.size then key else kf i, ?_, ?_, ?_, ?_⟩
           · simp [Instr.mapUpdate, run_underlying hu, MapKept.run_getObj_map hb, f1, g2, MapKept.run_setObj_map _ hb, Result.andThen]
           · rw [zvv, g1]; simp [hn]
           · refine ⟨fun i x' hx' => ?_, fun k' hk' => ?_, MapKept.stamped_push hks.st g3⟩
             · rw [Array.getElem?_push] at hx'
               split at hx'
               · rename_i hi'; cases hx'; rw [if_pos hi']; exact ⟨hkey, by simp⟩
               · rename_i hi'; rw [if_neg hi']
                 obtain ⟨q1, q2⟩ := hks.key i x' hx'
                 refine ⟨q1, ?_⟩
                 by_cases h2 : kf i = key
                 · simp [h2]
                 · simp only [if_neg h2]; exact q2
             · by_cases h2 : k' = key
               · exact ⟨es.size, by simp, by simp [h2]⟩
               · simp only [if_neg h2] at hk'
                 obtain ⟨i, i1, i2⟩ := hks.all k' hk'
                 exact ⟨i, by simp; omega, by rw [if_neg (by omega)]; exact i2⟩
           · intro i x' hx'
             rw [Array.getElem?_push] at hx'
             split at hx'
             · rename_i hi'; cases hx'; simp only [hi', if_true]
               exact ⟨_, rfl, hx⟩
             · rename_i hi'; simp only [if_neg hi']
               have hne : ¬ kf i = key := by
                 rintro q
                 have := (hks.key i x' hx').2
                 rw [q] at this
                 exact absurd (this.symm.trans g1) (by simp)
               simp only [if_neg hne]
               exact hr i x' hx'
         · have hlt : j < es.size := (Array.getElem?_eq_some_iff.1 g3).1
           refine ⟨es.modify j fun e => { e with key := a.eval y, val := a.eval v }, clock, kf, ?_, ?_, ?_, ?_⟩
           · simp [Instr.mapUpdate, run_underlying hu, MapKept.run_getObj_map hb, f1, f2, g3, g4, g5, MapKept.run_setObj_map _ hb, Result.andThen]
           · rw [zvv, g1]; simp [hn]
           · refine ⟨fun i x2 hx2 => ?_, fun k' hk' => ?_, MapKept.stamped_modify hks.st _ _ (fun _ _ => rfl) (fun e' _ he' => by rw [g3] at he'; cases he'; exact g4.symm)⟩
             · rw [Array.getElem?_modify] at hx2
               split at hx2
               · rename_i hi'
                 subst hi'
                 rw [g3] at hx2
                 cases hx2
                 rw [g2]
                 exact ⟨hkey, by simp⟩
               · obtain ⟨q1, q2⟩ := hks.key i x2 hx2
                 refine ⟨q1, ?_⟩
                 by_cases h2 : kf i = key
                 · simp [h2]
                 · simp only [if_neg h2]; exact q2
             · by_cases h2 : k' = key
               · exact ⟨j, by simpa using hlt, by rw [g2, h2]⟩
               · simp only [if_neg h2] at hk'
                 obtain ⟨i, i1, i2⟩ := hks.all k' hk'
                 exact ⟨i, by simpa using i1, i2⟩
           · intro i x2 hx2
             rw [Array.getElem?_modify] at hx2
             split at hx2
             · rename_i hi'
               subst hi'
               rw [g3] at hx2
               cases hx2
               rw [g2]
               exact ⟨_, if_pos rfl, hx⟩
             · rename_i hi'
               have hne : ¬ kf i = key := by
                 rintro q
                 have k1 := (hks.key i x2 hx2).1
                 rw [q] at k1
                 have k3 : x2.key = x'.key := by rw [g4]; exact k1.val hkey
                 have hi2 : i < es.size := (Array.getElem?_eq_some_iff.1 hx2).1
                 have nd := hks.st.2.2
                 have p1 : (es.toList.map (·.key))[i]? = some x2.key := by simp [hx2]
                 have p2 : (es.toList.map (·.key))[j]? = some x'.key := by simp [g3]
                 rw [k3, <- p2] at p1
                 have := (List.getElem?_inj (by simpa using hi2) nd).1 p1
                 exact hi' this.symm
               simp only [if_neg hne]
               exact hr i x2 hx2
       have hblt : b < w.heap.size := (Array.getElem?_eq_some_iff.1 hb).1
       have run : (execOp a.eval o).run P w = .ok .skip { w with heap := w.heap.setIfInBounds b (.map es' clock') } := by
         unfold execOp
         rw [e]
         simp [hum, hrun]
       intro K Q hK
       unfold Oper.wp
       rw [run]
       have h1 := h.turn (ob' := .mapl (zhw T kt) (zvw l key val')) (w' := { w with heap := w.heap.setIfInBounds b (.map es' clock') }) hμ hg (by simp) trivial hic rfl rfl rfl (by simp) (fun k' hk' => by simp [Ne.symm hk'])
         (fun hD => ⟨es', clock', kf', by simp [hblt], hn', hks', zya hq _ hnd, fun i x' hx' => by
           obtain ⟨y', y1, y2⟩ := hr' i x' hx'
           exact ⟨y', y1, y2.mono hD (fun _ h => h) (fun _ _ h => h)⟩⟩)
       exact hK _ _ ⟨_, _, h1.put hd (.dead _)⟩
     · trivial
   · trivial
 | [], ⟨_, hv⟩ => exact hv.elim
 | [_], ⟨_, _, hv⟩ => exact hv.elim
theorem zx4 (hT : zbw P T) {x y : Operand} {t t' : Nat} {ts : Array TypeId} (hts : ts.toList = [t, t']) (e : o.op = .call { callee := .builtin .delete, args := #[x, y], argTypes := ts }) {vals : List AV} (hv : Ops w.heap D μ a [x, y] vals) {ob : Nat -> Option Ob} (hob : ∀ id z, ob id = some z -> g id = some z) {ice : Nat -> Bool} (hice : ∀ id, ice id = false -> c id = false)
   {id : Nat} {kk : KK} {l : List (Ky × AV)} (hm : yew ob vals = some (id, kk, l)) :
   zcg P base M W nt f g c o a w (ydy T t ice id kk l vals) := by
 have hts' : ts = #[t, t'] := by apply Array.ext'; simpa using hts
 subst hts'
 obtain ⟨q, rfl, hg⟩ := zpm hm
 have hg := hob _ _ hg
 match q, hv with
 | [k], ⟨hm, hk, _⟩ =>
   obtain ⟨b, z, m, es, clock, kf, hum, hμ, hb, hn, hks, hnd, hr⟩ := zpp h hg hm
   unfold ydy
   simp only
   split
   · rename_i sz ag ze kt et eqf p1 p2 p3 hi
     have hu := (hT t _ hi).k
     simp only [kOk] at hu
     split
     · rename_i key hic hkk hke
       have hic := hice _ hic
       obtain ⟨rfl, hp⟩ := zkb hkk
       have hkey := zyc hke hk
       obtain ⟨f1, f2, f3⟩ := zho hT hks hkey hp w
       obtain ⟨es', kf', hrun, hn', hks', hr'⟩ : ∃ es' kf', (Builtin.delete_ #[t, t'] o.type #[.map (some b), a.eval y]).run P w = .ok (.tuple #[]) { w with heap := w.heap.setIfInBounds b (.map es' clock) } /\ es'.size = (ztu l key).length /\
           zfq (zhw T kt) (fun k => (zbc (ztu l key) k).isSome) es' clock kf' /\ ∀ (i : Nat) e, es'[i]? = some e -> ∃ x, zbc (ztu l key) (kf' i) = some x /\ R w.heap D μ x e.val := by
         simp only [zri _ l hnd]
         rcases f3 with ⟨g1, g2, g3⟩ | ⟨j, x', g1, g2, g3, g4, g5⟩
         · have hne : ∀ i x', es[i]? = some x' -> ¬ kf i = key := by
             rintro i x' hx' q
             have := (hks.key i x' hx').2
             rw [q] at this
             exact absurd (this.symm.trans g1) (by simp)
           refine ⟨es, kf, ?_, by rw [zpu, g1]; simpa using hn, ⟨fun i x' hx' => ⟨(hks.key i x' hx').1, ?_⟩, fun k' hk' => hks.all k' ?_, hks.st⟩, fun i x' hx' => ?_⟩
           · simp [Builtin.delete_, run_underlying hu, MapKept.run_getObj_map hb, f1, g2, MapKept.run_setObj_map _ hb, Result.andThen]
           · simp only [if_neg (hne i x' hx')]; exact (hks.key i x' hx').2
           · by_cases h2 : k' = key
             · simp [h2] at hk'
             · simpa only [if_neg h2] using hk'
           · simp only [if_neg (hne i x' hx')]; exact hr i x' hx'
         · have hlt : j < es.size := (Array.getElem?_eq_some_iff.1 g3).1
           have hers : ∀ i : Nat, (es.eraseIdxIfInBounds j)[i]? = if i < j then es[i]? else es[i + 1]? := by
             intro i
             unfold Array.eraseIdxIfInBounds
             rw [dif_pos hlt, Array.getElem?_eraseIdx]
           have inj : ∀ i e, es[i]? = some e -> kf i = key -> i = j := by
             intro i e1 he1 q
             have k1 := (hks.key i e1 he1).1
             rw [q] at k1
             have k3 : e1.key = x'.key := by rw [g4]; exact k1.val hkey
             have hi2 : i < es.size := (Array.getElem?_eq_some_iff.1 he1).1
             have p1 : (es.toList.map (·.key))[i]? = some e1.key := by simp [he1]
             have p2 : (es.toList.map (·.key))[j]? = some x'.key := by simp [g3]
             rw [k3, <- p2] at p1
             exact (List.getElem?_inj (by simpa using hi2) hks.st.2.2).1 p1
           refine ⟨es.eraseIdxIfInBounds j, fun i => if i < j then kf i else kf (i + 1), ?_, ?_, ⟨fun i x2 hx2 => ?_, fun k' hk' => ?_, MapKept.stamped_erase hks.st j⟩, fun i x2 hx2 => ?_⟩
           · simp [Builtin.delete_, run_underlying hu, MapKept.run_getObj_map hb, f1, g5, MapKept.run_setObj_map _ hb, Result.andThen]
           · rw [zpu, g1, if_pos rfl, <- hn]
             unfold Array.eraseIdxIfInBounds
             rw [dif_pos hlt]
             simp
           · rw [hers] at hx2
             have fin : ∀ i' (e2 : MapEntry), es[i']? = some e2 -> i' ≠ j -> zws (zhw T kt) e2.key (kf i') /\ (if kf i' = key then none else zbc l (kf i')).isSome = true := by
               intro i' e2 he2 hne
               obtain ⟨q1, q2⟩ := hks.key i' e2 he2
               exact ⟨q1, by rw [if_neg (fun q => hne (inj i' e2 he2 q))]; exact q2⟩
             by_cases hij : i < j
             · rw [if_pos hij] at hx2; simp only [if_pos hij]; exact fin i x2 hx2 (by omega)
             · rw [if_neg hij] at hx2; simp only [if_neg hij]; exact fin (i + 1) x2 hx2 (by omega)
           · have h2 : ¬ k' = key := by rintro rfl; simp at hk'
             simp only [if_neg h2] at hk'
             obtain ⟨i, i1, i2⟩ := hks.all k' hk'
             have hij : i ≠ j := by rintro rfl; rw [g2] at i2; exact h2 i2.symm
             have hsz : (es.eraseIdxIfInBounds j).size = es.size - 1 := by
               unfold Array.eraseIdxIfInBounds
               rw [dif_pos hlt]
               simp
             rw [hsz]
             by_cases hlt' : i < j
             · exact ⟨i, by omega, by simp only [if_pos hlt']; exact i2⟩
             · exact ⟨i - 1, by omega, by simp only [if_neg (show ¬ i - 1 < j by omega)]; rw [show i - 1 + 1 = i by omega]; exact i2⟩
           · rw [hers] at hx2
             have fin : ∀ i' (e2 : MapEntry), es[i']? = some e2 -> i' ≠ j -> ∃ x, (if kf i' = key then none else zbc l (kf i')) = some x /\ R w.heap D μ x e2.val := by
               intro i' e2 he2 hne
               rw [if_neg (fun q => hne (inj i' e2 he2 q))]
               exact hr i' e2 he2
             by_cases hij : i < j
             · rw [if_pos hij] at hx2; simp only [if_pos hij]; exact fin i x2 hx2 (by omega)
             · rw [if_neg hij] at hx2; simp only [if_neg hij]; exact fin (i + 1) x2 hx2 (by omega)
       have hblt : b < w.heap.size := (Array.getElem?_eq_some_iff.1 hb).1
       have run : (execOp a.eval o).run P w = .ok (.value (.tuple #[])) { w with heap := w.heap.setIfInBounds b (.map es' clock) } := by
         unfold execOp
         rw [e]
         simp [resolve, invoke, builtin, hum, hrun]
       intro K Q hK
       unfold Oper.wp
       rw [run]
       have h1 := h.turn (ob' := .mapl (zhw T kt) (ztu l key)) (w' := { w with heap := w.heap.setIfInBounds b (.map es' clock) }) hμ hg (by simp) trivial hic rfl rfl rfl (by simp) (fun k' hk' => by simp [Ne.symm hk'])
         (fun hD => ⟨es', clock, kf', by simp [hblt], hn', hks', (((zvy l).map Prod.fst).nodup hnd), fun i x' hx' => by
           obtain ⟨y', y1, y2⟩ := hr' i x' hx'
           exact ⟨y', y1, y2.mono hD (fun _ h => h) (fun _ _ h => h)⟩⟩)
       exact hK _ _ ⟨_, _, h1.put hd (.tup _ _ rfl (fun i x v hx => by simp at hx))⟩
     · trivial
   · trivial
 | [], ⟨_, hv⟩ => exact hv.elim
end
end Sy
end Go.Proofs.YtfonekpmkdkgnaaGreatDoor
namespace Go.Proofs.YtfonekpmkdkgnaaGreatDoor
namespace Sy
open Go Go.RowKit
set_option linter.unusedSimpArgs false
set_option linter.unusedVariables false
section
variable {P : Program} {T : TT} {base : Nat} {M : Two} {W : World} {nt : Nat} {f : Nat -> Option AV} {g : Nat -> Option Ob} {c : Nat -> Bool} {a : Act} {w : World} {D : Nat -> Prop} {μ : Mu} {o : Oper}
variable (h : Sim base M W nt f g c a w D μ) (hd : ∀ d, o.dst = some d -> d < nt)
include h hd
omit h hd in
theorem zpd {l : List Operand} : ∀ {vals : List AV}, Ops w.heap D μ a l vals -> vals.length = l.length /\ ∀ (i : Nat) x y, vals[i]? = some x -> l[i]? = some y -> R w.heap D μ x (a.eval y) := by
 induction l with
 | nil => intro vals hv; cases vals with
   | nil => exact ⟨rfl, fun i x y h => by simp at h⟩
   | cons _ _ => exact hv.elim
 | cons z l ih => intro vals hv; cases vals with
   | nil => exact hv.elim
   | cons v vs =>
     obtain ⟨h1, h2⟩ := ih hv.2
     refine ⟨by simp [h1], fun i x y hx hy => ?_⟩
     cases i with
     | zero => simp at hx hy; subst hx; subst hy; exact hv.1
     | succ i => exact h2 i x y (by simpa using hx) (by simpa using hy)
theorem yb3 {fo : Operand} {xs : Array Operand} {ts : Array TypeId} (e : o.op = .call { callee := .value fo, args := xs, argTypes := ts }) {vals : List AV} (hv : Ops w.heap D μ a (fo :: xs.toList) vals)
   {ob : Nat -> Option Ob} (hob : ∀ id z, ob id = some z -> g id = some z) : zcg P base M W nt f g c o a w (ynu std ob vals) := by
 unfold ynu
 split
 · rename_i k first caps zs
   obtain ⟨hf, hv⟩ := hv
   split
   · rename_i ys hys
     intro r hr K Q hK
     obtain ⟨l1, l2, l3⟩ := zl9 h hob hys (ids := ze8 (zbs first (zbs zs caps))) (fun _ h => h)
     have h' := h.freeze _ l2
     obtain ⟨o1, o2⟩ := zpd hv
     obtain ⟨vs, us, hfv, e1, e2, r1, r2⟩ : ∃ vs us, a.eval fo = .func (.func k) vs us /\ first.length = vs.size /\ caps.length = us.size /\ (∀ (i : Nat) x v, first[i]? = some x -> vs[i]? = some v -> R w.heap D μ x v) /\ (∀ (i : Nat) x v, caps[i]? = some x -> us[i]? = some v -> R w.heap D μ x v) := by
       generalize a.eval fo = u at hf
       cases hf with
       | fn _ _ _ vs us e1 e2 h1 h2 => exact ⟨vs, us, rfl, e1, e2, h1, h2⟩
     have hl : zs.length = xs.size := by rw [o1]; simp
     have hRL : RL w.heap (DF D μ (ze8 (zbs first (zbs zs caps)))) zam ys ((vs ++ xs.map a.eval) ++ us) := by
       refine ⟨by rw [l1, zae, zae]; simp [e1, e2, hl], fun i x' v hx' hv' => ?_⟩
       have hlt : i < (zbs first (zbs zs caps)).length := by rw [<- l1]; exact (List.getElem?_eq_some_iff.1 hx').1
       refine l3 i _ x' v (List.getElem?_eq_getElem hlt) hx' ?_
       obtain ⟨x, hx⟩ : ∃ x, (zbs first (zbs zs caps))[i]? = some x := ⟨_, List.getElem?_eq_getElem hlt⟩
       have hx2 : (zbs first (zbs zs caps))[i]'hlt = x := (List.getElem?_eq_some_iff.1 hx).2
       rw [hx2]
       rw [zae, zae] at hx
       rw [Array.append_assoc] at hv'
       by_cases i1 : i < first.length
       · rw [List.getElem?_append_left i1] at hx
         rw [Array.getElem?_append_left (by omega)] at hv'
         exact r1 i x v hx hv'
       · rw [List.getElem?_append_right (by omega)] at hx
         rw [Array.getElem?_append_right (by omega)] at hv'
         rw [e1] at hx
         by_cases i2 : i - vs.size < zs.length
         · rw [List.getElem?_append_left i2] at hx
           rw [Array.getElem?_append_left (by simp; omega)] at hv'
           have i3 : i - vs.size < xs.size := by omega
           simp [i3] at hv'
           subst hv'
           exact o2 _ x _ hx (by simp [i3])
         · rw [List.getElem?_append_right (by omega)] at hx
           rw [Array.getElem?_append_right (by simp; omega)] at hv'
           simp only [Array.size_map, <- hl] at hv'
           exact r2 _ x v hx hv'
     have hcall := hr _ w _ h'.dlt hRL h'.gok
     have fin : ∀ v D' w', Below w.heap.size w w' -> (∀ b, DF D μ (ze8 (zbs first (zbs zs caps))) b -> D' b) -> (∀ b, D' b -> DF D μ (ze8 (zbs first (zbs zs caps))) b \/ (w.heap.size <= b /\ b < w'.heap.size)) -> R w'.heap D' zam r v -> K (a.put o.dst v) w' := by
       intro v D' w' hb hD hD' hrv
       have hs := h'.world hb.os hb.tape hb.output hb.size hb.block hD hD'
       exact hK _ _ ⟨_, _, hs.put hd hrv.free⟩
     unfold Oper.wp
     have hrun : (execOp a.eval o).run P w = (callFunc k ((vs ++ xs.map a.eval) ++ us)).run P w := by
       unfold execOp
       rw [e]
       simp [resolve, hfv, Deferred.ofValue, invoke]
     rw [hrun]
     unfold zeq at hcall
     split at hcall
     · rename_i f' args' w' hcf
       rw [hcf, Oper.upon_enter]
       refine hcall.mono fun en w'' hen => ?_
       obtain ⟨v, D', rfl, p1, p2, p3, p4⟩ := hen
       exact fin v D' w'' p1 p2 p3 p4
     · rename_i v w' hcf
       rw [hcf, Oper.upon_value]
       obtain ⟨v', D', hv', p1, p2, p3, p4⟩ := hcall
       cases hv'
       exact fin v D' w' p1 p2 p3 p4
     · exact hcall.elim
   · split
     · rename_i ys hys
       intro r hsc hr K Q hK
       obtain ⟨l1, l3⟩ := zoz h hob hys
       obtain ⟨o1, o2⟩ := zpd hv
       obtain ⟨vs, us, hfv, e1, e2, r1, r2⟩ : ∃ vs us, a.eval fo = .func (.func k) vs us /\ first.length = vs.size /\ caps.length = us.size /\ (∀ (i : Nat) x v, first[i]? = some x -> vs[i]? = some v -> R w.heap D μ x v) /\ (∀ (i : Nat) x v, caps[i]? = some x -> us[i]? = some v -> R w.heap D μ x v) := by
         generalize a.eval fo = u at hf
         cases hf with
         | fn _ _ _ vs us e1 e2 h1 h2 => exact ⟨vs, us, rfl, e1, e2, h1, h2⟩
       have hl : zs.length = xs.size := by rw [o1]; simp
       have hRL : RL w.heap (zzi D μ) zam ys ((vs ++ xs.map a.eval) ++ us) := by
         refine ⟨by rw [l1, zae, zae]; simp [e1, e2, hl], fun i x' v hx' hv' => ?_⟩
         have hlt : i < (zbs first (zbs zs caps)).length := by rw [<- l1]; exact (List.getElem?_eq_some_iff.1 hx').1
         refine l3 i _ x' v (List.getElem?_eq_getElem hlt) hx' ?_
         obtain ⟨x, hx⟩ : ∃ x, (zbs first (zbs zs caps))[i]? = some x := ⟨_, List.getElem?_eq_getElem hlt⟩
         have hx2 : (zbs first (zbs zs caps))[i]'hlt = x := (List.getElem?_eq_some_iff.1 hx).2
         rw [hx2]
         rw [zae, zae] at hx
         rw [Array.append_assoc] at hv'
         by_cases i1 : i < first.length
         · rw [List.getElem?_append_left i1] at hx
           rw [Array.getElem?_append_left (by omega)] at hv'
           exact r1 i x v hx hv'
         · rw [List.getElem?_append_right (by omega)] at hx
           rw [Array.getElem?_append_right (by omega)] at hv'
           rw [e1] at hx
           by_cases i2 : i - vs.size < zs.length
           · rw [List.getElem?_append_left i2] at hx
             rw [Array.getElem?_append_left (by simp; omega)] at hv'
             have i3 : i - vs.size < xs.size := by omega
             simp [i3] at hv'
             subst hv'
             exact o2 _ x _ hx (by simp [i3])
           · rw [List.getElem?_append_right (by omega)] at hx
             rw [Array.getElem?_append_right (by simp; omega)] at hv'
             simp only [Array.size_map, <- hl] at hv'
             exact r2 _ x v hx hv'
       have hcall := hr _ w _ (fun b hb => by
         rcases hb with hb | ⟨id, z, m, hm⟩
         · exact h.dlt b hb
         · exact (h.own id b _ hm).1) hRL h.gok
       have fin : ∀ v D' w', Below w.heap.size w w' -> R w'.heap D' zam r v -> K (a.put o.dst v) w' := by
         intro v D' w' hb hrv
         have hs := h.world hb.os hb.tape hb.output hb.size hb.block (D' := D) (fun _ h => h) (fun _ h => .inl h)
         exact hK _ _ ⟨_, _, hs.put hd (ykv hrv hsc)⟩
       unfold Oper.wp
       have hrun : (execOp a.eval o).run P w = (callFunc k ((vs ++ xs.map a.eval) ++ us)).run P w := by
         unfold execOp
         rw [e]
         simp [resolve, hfv, Deferred.ofValue, invoke]
       rw [hrun]
       unfold zeq at hcall
       split at hcall
       · rename_i f' args' w' hcf
         rw [hcf, Oper.upon_enter]
         refine hcall.mono fun en w'' hen => ?_
         obtain ⟨v, D', rfl, p1, p2, p3, p4⟩ := hen
         exact fin v D' w'' p1 p4
       · rename_i v w' hcf
         rw [hcf, Oper.upon_value]
         obtain ⟨v', D', hv', p1, p2, p3, p4⟩ := hcall
         cases hv'
         exact fin v D' w' p1 p4
       · exact hcall.elim
     · trivial
 · trivial
theorem says (hT : zbw P T) (hpl : ∀ x ∈ zbv o.op, ∀ v, x = .const v -> zix v = true) {kn : List (Nat × Bool)} (hk : ∀ t b, za2 kn t = some b -> f t = some (.bool b)) : zcg P base M W nt f g c o a w (zku T std f g c kn o) := by
 have hv : ∀ l : List Operand, (∀ x ∈ l, ∀ v, x = .const v -> zix v = true) -> Ops w.heap D μ a l (zcw (evf f kn) l) := by
   intro l
   induction l with
   | nil => intro _; trivial
   | cons x l ih => intro hp; exact ⟨ymw h hk x (fun v hv => hp x (by simp) v hv), ih (fun y hy => hp y (by simp [hy]))⟩
 have hv := hv _ hpl
 unfold zku
 generalize zcw (evf f kn) (zbv o.op) = vals at hv |-
 have hob : ∀ ids id z, yom g ids id = some z -> g id = some z := by
   intro ids id z hz
   unfold yom at hz
   split at hz
   · exact hz
   · cases hz
 have hice : ∀ id, zyk c o.op vals id = false -> c id = false := by
   intro id hz
   unfold zyk at hz
   split at hz
   · split at hz
     · exact hz
     · cases hz
   · cases hz
 unfold yuw
 split
 · rename_i x e; rw [e] at hv; exact zqm h hd (.inl e) hv
 · rename_i x e; rw [e] at hv; exact zqm h hd (.inr e) hv
 · rename_i b x y e; rw [e] at hv; exact yap h hd e hv
 · rename_i op t x y t' e; rw [e] at hv; exact yb4 h hd hT e hv
 · rename_i op t x e; rw [e] at hv; exact ykw h hd e hv
 · rename_i s t x e
   have hv' := hv; rw [e] at hv'
   split
   · rename_i ht; exact zxf h hd hT e ht hv'
   · exact yb2 h hd hT e hv' (hob _)
 · rename_i t e
   split
   · exact zt1 h hd hT e (hob _) _
   · exact zxi h hd hT e
 · rename_i t x e
   have hv' := hv; rw [e] at hv'; exact yfd h hd hT e hv'
 · rename_i t ps e
   have hv' := hv; rw [e] at hv'; simp only [zbv, zj3] at hv'; exact zxg h hd hT e hv'
 · rename_i t n ps e
   have hv' := hv; rw [e] at hv'; simp only [zbv, zj3] at hv'; exact yan h hd hT e (zvc hv') (hob _)
 · rename_i t x e
   have hv' := hv; rw [e] at hv'; exact yaw h hd hT e hv' (hob _)
 · rename_i t x y e
   have hv' := hv; rw [e] at hv'; exact zx1 h hd hT e hv' (hob _) hice
 · rename_i t x k e
   have hv' := hv; rw [e] at hv'; exact zxc h hd hT e hv'
 · rename_i t x k e
   have hv' := hv; rw [e] at hv'; exact zxb h hd hT e hv'
 · rename_i t x y e
   have hv' := hv; rw [e] at hv'; exact zxa h hd hT e (zvd hv') (hob _)
 · rename_i t x y e
   have hv' := hv; rw [e] at hv'; exact zx9 h hd hT e hv'
 · rename_i t x l r m e
   have hv' := hv; rw [e] at hv'; simp only [zbv, zae] at hv'
   split
   · exact zsx h hd hT e hv'
   · exact zx2 h hd hT e hv' (hob _)
 · rename_i x i e
   have hv' := hv; rw [e] at hv'; exact zqn h hd e hv'
 · rename_i fn xs ys e
   have hv' := hv; rw [e] at hv'; simp only [zbv, zae] at hv'; exact yaz h hd e hv'
 · rename_i x e
   have hv' := hv; rw [e] at hv'; exact yf7 h hd e hv'
 · rename_i t x e
   have hv' := hv; rw [e] at hv'; exact yff h hd hT e hv' (hob _)
 · rename_i t x y e
   have hv' := hv; rw [e] at hv'; exact zsy h hd hT e hv'
 · rename_i t e
   split
   · exact zx5 h hd hT e
   · split
     · exact zx6 h hd hT e
     · exact yau h hd hT e
 · rename_i t x y ok e
   have hv' := hv; rw [e] at hv'
   split
   · rename_i hm; exact zx8 h hd hT e hv' (hob _) hm
   · split
     · rename_i hm; exact zx7 h hd hT e hv' (hob _) hm
     · exact yav h hd hT e hv' (hob _)
 · rename_i t x y v e
   have hv' := hv; rw [e] at hv'
   split
   · rename_i hm; exact yar h hd hT e hv' (hob _) hice hm
   · split
     · rename_i hm; exact yaq h hd hT e hv' (hob _) hice hm
     · exact yf8 h hd hT e hv' (hob _) hice
 · rename_i cl e
   obtain ⟨callee, args, ts⟩ := cl
   have hv' := hv
   rw [e] at hv'
   cases callee with
   | value fo => exact yb3 h hd e hv' (hob _)
   | invoke r m => trivial
   | builtin b =>
     simp only [zbv] at hv'
     cases b with
     | len =>
       simp only
       split
       · rename_i t r hts
         match args, hv' with
         | ⟨[x]⟩, hv' =>
           split
           · rename_i hm; exact yax h hd hT hts e hv' (hob _) hm
           · exact yfb h hd hT hts e (zvd hv') (hob _)
         | ⟨[]⟩, hv' => match vals, hv' with | [], _ => trivial
         | ⟨x :: y :: l⟩, hv' => match vals, hv' with | u :: v :: vs, _ => (split; (· trivial); (· clear hv'; cases u <;> trivial))
       · trivial
     | cap =>
       simp only
       split
       · rename_i t r hts
         match args, hv' with
         | ⟨[x]⟩, hv' => exact yfc h hd hT hts e hv'
         | ⟨[]⟩, hv' => match vals, hv' with | [], _ => trivial
         | ⟨x :: y :: l⟩, hv' => match vals, hv' with | u :: v :: vs, _ => cases u <;> trivial
       · trivial
     | clear =>
       simp only
       split
       · rename_i t r hts
         match args, hv' with
         | ⟨[x]⟩, hv' => exact zxe h hd hT hts e hv' (hob _) hice
         | ⟨[]⟩, hv' => match vals, hv' with | [], _ => trivial
         | ⟨x :: y :: l⟩, hv' => match vals, hv' with | u :: v :: vs, _ => trivial
       · trivial
     | unsafeSliceData =>
       match args, hv' with
       | ⟨[x]⟩, hv' => exact zx3 h hd e hv'
       | ⟨[]⟩, hv' => match vals, hv' with | [], _ => trivial
       | ⟨x :: y :: l⟩, hv' => match vals, hv' with | u :: v :: vs, _ => (show zcg _ _ _ _ _ _ _ _ _ _ _ (zsb _ _); unfold zsb; split; (rename_i he; simp at he); trivial)
     | unsafeString =>
       simp only
       split
       · rename_i t t2 hts
         match args, hv' with
         | ⟨[x, y]⟩, hv' => exact yam h hd hT hts e hv' (hob _) hice
         | ⟨[]⟩, hv' => match vals, hv' with | [], _ => trivial
         | ⟨[x]⟩, hv' => match vals, hv' with | [u], _ => (show zcg _ _ _ _ _ _ _ _ _ _ _ (zui _ _ _ _ _ _); unfold zui; split; (rename_i he; simp at he); trivial)
         | ⟨x :: y :: z :: l⟩, hv' => match vals, hv' with | u :: v :: q :: vs, _ => (show zcg _ _ _ _ _ _ _ _ _ _ _ (zui _ _ _ _ _ _); unfold zui; split; (rename_i he; simp at he); trivial)
       · trivial
     | complex =>
       match args, hv' with
       | ⟨[x, y]⟩, hv' => exact zqo h hd e hv'
       | ⟨[]⟩, hv' => match vals, hv' with | [], _ => trivial
       | ⟨[x]⟩, hv' => match vals, hv' with | [u], _ => (show zcg _ _ _ _ _ _ _ _ _ _ _ (yns _); unfold yns; split; (rename_i he; simp at he); trivial)
       | ⟨x :: y :: z :: l⟩, hv' => match vals, hv' with | u :: v :: q :: vs, _ => (show zcg _ _ _ _ _ _ _ _ _ _ _ (yns _); unfold yns; split; (rename_i he; simp at he); trivial)
     | real =>
       match args, hv' with
       | ⟨[x]⟩, hv' => exact yao h hd e hv'
       | ⟨[]⟩, hv' => match vals, hv' with | [], _ => trivial
       | ⟨x :: y :: l⟩, hv' => match vals, hv' with | u :: v :: vs, _ => (show zcg _ _ _ _ _ _ _ _ _ _ _ (cRe _); unfold cRe; split; (rename_i he; simp at he); trivial)
     | imag =>
       match args, hv' with
       | ⟨[x]⟩, hv' => exact yay h hd e hv'
       | ⟨[]⟩, hv' => match vals, hv' with | [], _ => trivial
       | ⟨x :: y :: l⟩, hv' => match vals, hv' with | u :: v :: vs, _ => (show zcg _ _ _ _ _ _ _ _ _ _ _ (cIm _); unfold cIm; split; (rename_i he; simp at he); trivial)
     | min =>
       match args, hv' with
       | ⟨[x, y]⟩, hv' => exact yf9 h hd e hv'
       | ⟨[]⟩, hv' => match vals, hv' with | [], _ => trivial
       | ⟨[x]⟩, hv' => match vals, hv' with | [u], _ => cases u <;> trivial
       | ⟨x :: y :: z :: l⟩, hv' => match vals, hv' with | u :: v :: q :: vs, _ => (show zcg _ _ _ _ _ _ _ _ _ _ _ (yry _ _); unfold yry; split; (rename_i he; simp at he); (rename_i he; simp at he); trivial)
     | max =>
       match args, hv' with
       | ⟨[x, y]⟩, hv' => exact yfa h hd e hv'
       | ⟨[]⟩, hv' => match vals, hv' with | [], _ => trivial
       | ⟨[x]⟩, hv' => match vals, hv' with | [u], _ => cases u <;> trivial
       | ⟨[x, y, z]⟩, hv' => exact yat h hd e hv'
       | ⟨x :: y :: z :: z' :: l⟩, hv' => match vals, hv' with | u :: v :: q :: q' :: vs, _ => (show zcg _ _ _ _ _ _ _ _ _ _ _ (ynm _ _); unfold ynm; split; (rename_i he; simp at he); (rename_i he; simp at he); (rename_i he; simp at he); trivial)
     | append =>
       simp only
       split
       · rename_i t t' hts
         match args, hv' with
         | ⟨[x, y]⟩, hv' =>
           split
           · exact zqr h hd hT hts e hv' (hob _) hice
           · split
             · split
               · exact zqq h hd hT hts e hv' (hob _) _
               · exact zqp h hd hT hts e hv' (hob _)
             · exact zt0 h hd hT hts e hv' (hob _) hice
         | ⟨[]⟩, hv' => match vals, hv' with | [], _ => trivial
         | ⟨[x]⟩, hv' => match vals, hv' with | [u], _ => (split <;> first | trivial | (unfold zji; split; (rename_i he; simp at he); trivial) | (split <;> first | trivial | (split <;> first | (unfold zjh; split; (rename_i he; simp at he); trivial) | (unfold zjg; split; (rename_i he; simp at he); trivial))))
         | ⟨x :: y :: z :: l⟩, hv' => match vals, hv' with | u :: v :: q :: vs, _ => (split <;> first | trivial | (unfold zji; split; (rename_i he; simp at he); trivial) | (split <;> first | trivial | (split <;> first | (unfold zjh; split; (rename_i he; simp at he); trivial) | (unfold zjg; split; (rename_i he; simp at he); trivial))))
       · trivial
     | copy =>
       simp only
       split
       · rename_i t t' hts
         match args, hv' with
         | ⟨[x, y]⟩, hv' =>
           split
           · exact zxd h hd hT hts e hv' (hob _) hice
           · exact yb1 h hd hT hts e hv' (hob _) hice
         | ⟨[]⟩, hv' => match vals, hv' with | [], _ => trivial
         | ⟨[x]⟩, hv' => match vals, hv' with | [u], _ => (split <;> first | (unfold zsc; split; (rename_i he; simp at he); trivial) | (unfold ye7; split; (rename_i he; simp at he); trivial))
         | ⟨x :: y :: z :: l⟩, hv' => match vals, hv' with | u :: v :: q :: vs, _ => (split <;> first | (unfold zsc; split; (rename_i he; simp at he); trivial) | (unfold ye7; split; (rename_i he; simp at he); trivial))
       · trivial
     | delete =>
       simp only
       split
       · rename_i t t' hts
         match args, hv' with
         | ⟨[x, y]⟩, hv' =>
           split
           · rename_i hm; exact zx4 h hd hT hts e hv' (hob _) hice hm
           · exact yas h hd hT hts e hv' (hob _) hice
         | ⟨[]⟩, hv' => match vals, hv' with | [], _ => trivial
         | ⟨[x]⟩, hv' => match vals, hv' with | [u], _ => (split; (· trivial); (show zcg _ _ _ _ _ _ _ _ _ _ _ (zul _ _ _ _ _ _); unfold zul; split; (rename_i he; simp at he); trivial))
         | ⟨x :: y :: z :: l⟩, hv' => match vals, hv' with | u :: v :: q :: vs, _ => (split; (· trivial); (show zcg _ _ _ _ _ _ _ _ _ _ _ (zul _ _ _ _ _ _); unfold zul; split; (rename_i he; simp at he); trivial))
       · trivial
     | _ => trivial
 · trivial
end
end Sy
end Go.Proofs.YtfonekpmkdkgnaaGreatDoor
namespace Go.Proofs.YtfonekpmkdkgnaaGreatDoor
namespace Sy
open Go Go.RowKit
set_option linter.unusedSimpArgs false
set_option linter.unusedVariables false
set_option linter.unusedSectionVars false
def yc4 (μ : Mu) (F : List (Nat × Option Nat)) : Mu := fun t => match za2 F t with
 | some (some id) => μ id
 | some none => some none
 | none => none
def zgf (μ : Mu) (F : List (Nat × Option Nat)) : Mu := fun t => if zax t = true then (if za2 F (zgy t) = some (some (zgy t)) then μ t else none) else yc4 μ F t
def Pr (F : List (Nat × Option Nat)) (t id : Nat) : Prop := za2 F t = some (some id) /\ t < zcn
def PrN (F : List (Nat × Option Nat)) (t : Nat) : Prop := za2 F t = some none /\ t < zcn
def Inj (ids : List (Nat × Option Nat)) : Prop := ∀ t t' id, za2 ids t = some (some id) -> za2 ids t' = some (some id) -> t = t'
structure Ext (m m' : zcq) : Prop where
 ids : ∀ t x, za2 m.ids t = some x -> za2 m'.ids t = some x
 ps : ∀ p, p ∈ m.ps -> p ∈ m'.ps
 inj : Inj m.ids -> Inj m'.ids
theorem Ext.refl (m : zcq) : Ext m m := ⟨fun _ _ h => h, fun _ h => h, fun h => h⟩
theorem Ext.trans {m m' m'' : zcq} (a : Ext m m') (b : Ext m' m'') : Ext m m'' := ⟨fun t x h => b.ids t x (a.ids t x h), fun p h => b.ps p (a.ps p h), fun h => b.inj (a.inj h)⟩
theorem Ext.add (m : zcq) (p : Prop) : Ext m (m.add p) := ⟨fun _ _ h => h, fun q h => List.mem_cons_of_mem _ h, fun h => h⟩
theorem ztv {id : Nat} {x : Option Nat} (h : yjn id x = true) : x = some id := by
 unfold yjn at h
 split at h
 · rw [za1 h]
 · cases h
theorem ya5 {id : Nat} {ids : List (Nat × Option Nat)} (h : zqg id ids = false) : ∀ t, za2 ids t ≠ some (some id) := by
 induction ids with
 | nil => intro t; simp [za2]
 | cons p r ih =>
   obtain ⟨k, y⟩ := p
   unfold zqg at h
   cases e : yjn id y with
   | true => rw [e] at h; cases h
   | false =>
     rw [e] at h
     intro t
     unfold za2
     split
     · intro hy
       cases hy
       simp [yjn, za3] at e
     · exact ih h t
theorem zd8 {m m' : zcq} {tid id : Nat} (h : zew m tid id = some m') : Ext m m' /\ Pr m'.ids tid id := by
 unfold zew at h
 split at h
 · cases h
 rename_i hlt
 have hlt := zas hlt
 refine (show Ext m m' /\ za2 m'.ids tid = some (some id) from ?_).imp (fun h => h) (fun h => ⟨h, hlt⟩)
 split at h
 · rename_i x hx
   split at h
   · rename_i e; cases h; exact ⟨.refl _, by rw [hx, ztv e]⟩
   · cases h
 · rename_i hx
   split at h
   · cases h
   · rename_i e
     cases h
     refine ⟨⟨fun t x ht => ?_, fun _ h => h, fun hi t t' id' h1 h2 => ?_⟩, by simp [za2, za3]⟩
     · simp only [za2]
       split
       · rename_i e'; rw [za1 e'] at hx; rw [hx] at ht; cases ht
       · exact ht
     · have e := ya5 (by simpa using e : zqg id m.ids = false)
       simp only [za2] at h1 h2
       cases q1 : za8 tid t with
       | true => cases q2 : za8 tid t' with
         | true => rw [<- za1 q1, <- za1 q2]
         | false => rw [q1] at h1; rw [q2] at h2; cases h1; exact absurd h2 (e _)
       | false => cases q2 : za8 tid t' with
         | true => rw [q1] at h1; rw [q2] at h2; cases h2; exact absurd h1 (e _)
         | false => rw [q1] at h1; rw [q2] at h2; exact hi _ _ _ h1 h2
theorem zo6 {m m' : zcq} {tid : Nat} (h : zi7 m tid = some m') : Ext m m' /\ PrN m'.ids tid := by
 unfold zi7 at h
 split at h
 · cases h
 rename_i hlt
 have hlt := zas hlt
 refine (show Ext m m' /\ za2 m'.ids tid = some none from ?_).imp (fun h => h) (fun h => ⟨h, hlt⟩)
 split at h
 · cases h
 · rename_i hx
   cases h
   refine ⟨⟨fun t x ht => ?_, fun _ h => h, fun hi t t' id' h1 h2 => ?_⟩, by simp [za2, za3]⟩
   · simp only [za2]
     split
     · rename_i e'; rw [za1 e'] at hx; rw [hx] at ht; cases ht
     · exact ht
   · simp only [za2] at h1 h2
     split at h1 <;> split at h2
     · cases h1
     · cases h1
     · cases h2
     · exact hi _ _ _ h1 h2
section
variable {h : Array Obj} {D : Nat -> Prop} {μ : Mu}
def Fin (m : zcq) (F : List (Nat × Option Nat)) : Prop := (∀ t x, za2 m.ids t = some x -> za2 F t = some x) /\ ∀ p, p ∈ m.ps -> p
theorem Fin.of {m m' : zcq} {F : List (Nat × Option Nat)} (e : Ext m m') (f : Fin m' F) : Fin m F := ⟨fun t x h => f.1 t x (e.ids t x h), fun p h => f.2 p (e.ps p h)⟩
theorem Fin.get {m : zcq} {F : List (Nat × Option Nat)} (f : Fin m F) {t id : Nat} (h : Pr m.ids t id) : Pr F t id := ⟨f.1 _ _ h.1, h.2⟩
theorem Fin.getN {m : zcq} {F : List (Nat × Option Nat)} (f : Fin m F) {t : Nat} (h : PrN m.ids t) : PrN F t := ⟨f.1 _ _ h.1, h.2⟩
theorem zhi {F : List (Nat × Option Nat)} {t : Nat} (h : t < zcn) : zgf μ F t = yc4 μ F t := by unfold zgf; rw [if_neg (by rw [zb6.2 h]; decide)]
theorem zc2 {F : List (Nat × Option Nat)} {t id : Nat} (h : Pr F t id) : zgf μ F t = μ id := by rw [zhi h.2]; unfold yc4; rw [h.1]
theorem zvk {F : List (Nat × Option Nat)} {t : Nat} (h : PrN F t) : zgf μ F t = some none := by rw [zhi h.2]; unfold yc4; rw [h.1]
theorem zl8 {F : List (Nat × Option Nat)} {p : Nat} (h : Pr F p p) (k : Nat) : zgf μ F (mid p k) = μ (mid p k) := by
 obtain ⟨m1, m2, _⟩ := zff h.2 k
 unfold zgf
 rw [if_pos m1, m2, if_pos h.1]
theorem ylf {F : List (Nat × Option Nat)} {q : Nat} (h : Pr F q q) : ∀ id x, pm q μ id = some x -> pm q (zgf μ F) id = some x := by
 intro id x hx
 unfold pm at hx |-
 split at hx
 · rename_i e
   rw [if_pos e]
   unfold zgf
   rw [if_pos e.1, e.2, if_pos h.1]
   exact hx
 · cases hx
theorem zfq.turn {kk : KK} {has has' : Ky -> Bool} {es : Array MapEntry} {clock : Nat} {kf : Nat -> Ky} (k : zfq kk has' es clock kf) (e : ∀ x, has' x = has x) : zfq kk has es clock kf :=
 ⟨fun i x hx => ⟨(k.key i x hx).1, by rw [<- e]; exact (k.key i x hx).2⟩, fun x hx => k.all x (by rw [e]; exact hx), k.st⟩
theorem zpo {m m' : zcq} {v u : AV} (e : zdt m v u = some m') : Ext m m' /\ ∀ F x, Fin m' F -> R h D μ u x -> R h D (zgf μ F) v x := by
 unfold zdt at e
 split at e
 · cases e; exact ⟨.refl _, fun F x _ _ => .dead _⟩
 · cases e; refine ⟨.add _ _, fun F x f r => ?_⟩
   have := f.2 _ (List.mem_cons_self ..); subst this
   cases r; exact .bool _
 · split at e
   · rename_i hk
     have hk := of_decide_eq_true hk; subst hk
     cases e; refine ⟨.add _ _, fun F x f r => ?_⟩
     have := f.2 _ (List.mem_cons_self ..); subst this
     cases r; exact .int _ _
   · cases e
 · cases e; refine ⟨.add _ _, fun F x f r => ?_⟩
   have := f.2 _ (List.mem_cons_self ..); subst this
   cases r with | str _ s e => exact .str _ s e
 · split at e
   · rename_i hk
     have hk := of_decide_eq_true hk; subst hk
     cases e; refine ⟨.add _ _, fun F x f r => ?_⟩
     have := f.2 _ (List.mem_cons_self ..); subst this
     cases r; exact .flt _ _
   · cases e
 · split at e
   · rename_i hk
     have hk := of_decide_eq_true hk; subst hk
     cases e; refine ⟨(Ext.add _ _).trans (.add _ _), fun F x f r => ?_⟩
     have h1 := f.2 _ (List.mem_cons_self ..)
     have h2 := f.2 _ (List.mem_cons_of_mem _ (List.mem_cons_self ..))
     subst h1; subst h2
     cases r; exact .cpx _ _ _
   · cases e
 · cases e; exact ⟨.refl _, fun F x _ r => by cases r; exact .nilp⟩
 · cases e; exact ⟨.refl _, fun F x _ r => by cases r; exact .nilm⟩
 · cases e; exact ⟨.refl _, fun F x _ r => by cases r; exact .nilf⟩
 · cases e; exact ⟨.refl _, fun F x _ r => by cases r; exact .nils⟩
 · cases e; exact ⟨.refl _, fun F x _ r => by cases r; exact .nili⟩
 · cases e; refine ⟨.add _ _, fun F x f r => ?_⟩
   have := f.2 _ (List.mem_cons_self ..); subst this
   cases r with
   | ifn => exact .ifn
   | ifs t p => exact .ifs t p
 · cases e; exact ⟨.refl _, fun F x _ r => by cases r; exact .emp _ _⟩
 · cases e; exact ⟨.refl _, fun F x _ r => by cases r; exact .emz _⟩
 · rename_i sz n get sz' n' get'
   split at e
   · rename_i hz
     have := za1 hz; subst this
     cases e; refine ⟨.add _ _, fun F x f r => ?_⟩
     obtain ⟨h1, h2⟩ := f.2 _ (List.mem_cons_self ..); subst h1
     cases r with
     | lst0 _ _ a cap hn => exact .lst0 _ _ a cap hn
     | lst _ _ _ b o cap vs hD hc hv h1 hr => exact .lst _ _ _ b o cap vs hD hc hv h1 (fun i j hi hj => by rw [<- h2 i j hi hj]; exact hr i j hi hj)
   · cases e
 · rename_i sz n get sz' n' get'
   split at e
   · rename_i hz
     have := za1 hz; subst this
     cases e; refine ⟨.add _ _, fun F x f r => ?_⟩
     obtain ⟨h1, h2⟩ := f.2 _ (List.mem_cons_self ..); subst h1
     cases r.lessx with
     | lst0 _ _ a cap hn => exact .lst0 _ _ a cap hn
     | lst _ _ _ b o cap vs hD hc hv h1 hr => exact .lst _ _ _ b o cap vs hD hc hv h1 (fun i j hi hj => by rw [<- h2 i j hi hj]; exact hr i j hi hj)
   · cases e
 · cases e; refine ⟨.add _ _, fun F x f r => ?_⟩
   have h1 := f.2 _ (List.mem_cons_self ..); subst h1
   cases r with | nils => exact .lst0 _ _ none 0 (fun _ => rfl)
 · cases e; refine ⟨.add _ _, fun F x f r => ?_⟩
   have h1 := f.2 _ (List.mem_cons_self ..); subst h1
   cases r with | emp a cap => exact .lst0 _ _ _ cap (fun h => by cases h)
 · cases e; refine ⟨.add _ _, fun F x f r => ?_⟩
   have h1 := f.2 _ (List.mem_cons_self ..); subst h1
   cases r with | emz a => exact .lst0 _ _ _ 0 (fun h => by cases h)
 · rename_i n get n' get'
   cases e; refine ⟨.add _ _, fun F x f r => ?_⟩
   obtain ⟨h1, h2⟩ := f.2 _ (List.mem_cons_self ..)
   cases r with
   | iptr _ _ b o vs hD hv h1' hr => exact .iptr _ _ b o vs hD (fun j hj => hv j (by omega)) (fun j hj => h1' j (by omega)) (fun j hj => by rw [<- h2 j hj]; exact hr j (by omega))
 · rename_i n get n' get'
   split at e
   · rename_i hz
     have := za1 hz; subst this
     cases e; refine ⟨.add _ _, fun F x f r => ?_⟩
     have h2 := f.2 _ (List.mem_cons_self ..)
     cases r with
     | arr _ _ vs e1 h1 hr => exact .arr _ _ vs e1 h1 (fun j v hv => by
         rw [<- h2 j (by rw [e1]; exact (Array.getElem?_eq_some_iff.1 hv).1)]
         exact hr j v hv)
   · cases e
 · split at e
   · rename_i ho
     have := za1 ho; subst this
     obtain ⟨e1, e2⟩ := zd8 e
     refine ⟨e1, fun F x f r => ?_⟩
     cases r with | ref _ _ b z m hm => exact .ref _ _ b z m ((zc2 (f.get e2)).trans hm)
   · cases e
 · split at e
   · rename_i hz
     split at e
     · rename_i ho
       split at e
       · rename_i m1 hp
         have := za1 hz; subst this
         have := za1 ho; subst this
         obtain ⟨e1, e2⟩ := zd8 hp
         cases e
         refine ⟨e1.trans (.add _ _), fun F x f r => ?_⟩
         have h1 := f.2 _ (List.mem_cons_self ..); subst h1
         cases r with | eref _ _ _ _ b z m hm hi => exact .eref _ _ _ _ b z m ((zc2 (f.get e2)).trans hm) hi
       · cases e
     · cases e
   · cases e
 · split at e
   · rename_i hz
     split at e
     · rename_i m1 hp
       have := za1 hz; subst this
       obtain ⟨e1, e2⟩ := zd8 hp
       cases e
       refine ⟨e1.trans (.add _ _), fun F x f r => ?_⟩
       obtain ⟨h1, h2⟩ := f.2 _ (List.mem_cons_self ..); subst h1; subst h2
       cases r with
       | slv _ _ a hm => exact .slv _ _ a ((zc2 (f.get e2)).trans hm)
       | sl0 _ _ _ b z m o hm ho => exact .sl0 _ _ _ b z m o ((zc2 (f.get e2)).trans hm) ho
       | sl _ _ _ _ b z m cap hm hn hz ho => exact .sl _ _ _ _ b z m cap ((zc2 (f.get e2)).trans hm) hn hz ho
     · cases e
   · cases e
 · split at e
   · rename_i hz
     split at e
     · rename_i m1 hp
       have := za1 hz; subst this
       obtain ⟨e1, e2⟩ := zd8 hp
       cases e
       refine ⟨e1.trans (.add _ _), fun F x f r => ?_⟩
       obtain ⟨h1, h2⟩ := f.2 _ (List.mem_cons_self ..); subst h1; subst h2
       cases r.less with
       | slv _ _ a hm => exact .slv _ _ a ((zc2 (f.get e2)).trans hm)
       | sl0 _ _ _ b z m o hm ho => exact .sl0 _ _ _ b z m o ((zc2 (f.get e2)).trans hm) ho
       | sl _ _ _ _ b z m cap hm hn hz ho => exact .sl _ _ _ _ b z m cap ((zc2 (f.get e2)).trans hm) hn hz ho
     · cases e
   · cases e
 · split at e
   · rename_i hz
     split at e
     · rename_i m1 hp
       have := za1 hz; subst this
       obtain ⟨e1, e2⟩ := zd8 hp
       cases e
       refine ⟨e1.trans (.add _ _), fun F x f r => ?_⟩
       obtain ⟨h1, h2, h3⟩ := f.2 _ (List.mem_cons_self ..); subst h1; subst h2; subst h3
       cases r with
       | slcv _ _ a hm => exact .slcv _ _ a ((zc2 (f.get e2)).trans hm)
       | slc0 _ _ _ b z m o hm ho => exact .slc0 _ _ _ b z m o ((zc2 (f.get e2)).trans hm) ho
       | slc _ _ _ _ _ b z m hm hn hz ho => exact .slc _ _ _ _ _ b z m ((zc2 (f.get e2)).trans hm) hn hz ho
     · cases e
   · cases e
 · split at e
   · rename_i m1 hp
     obtain ⟨e1, e2⟩ := zo6 hp
     cases e
     refine ⟨e1.trans (.add _ _), fun F x f r => ?_⟩
     obtain ⟨h1, h2⟩ := f.2 _ (List.mem_cons_self ..); subst h1; subst h2
     cases r with | nils => exact .slv _ _ none (zvk (f.getN e2))
   · cases e
 · split at e
   · rename_i hf hfr
     have := za1 hf; subst this
     cases e; refine ⟨.add _ _, fun F x f r => ?_⟩
     obtain ⟨h1, h2⟩ := f.2 _ (List.mem_cons_self ..); subst h1; subst h2
     exact (zdb r hfr).free
   · cases e
 · obtain ⟨e1, e2⟩ := zd8 e
   refine ⟨e1, fun F x f r => ?_⟩
   cases r with | mp _ b z m hm => exact .mp _ b z m ((zc2 (f.get e2)).trans hm)
 · split at e
   · rename_i hp hz
     obtain rfl := za1 hp
     obtain rfl := za1 hz
     split at e
     · rename_i m1 hp
       obtain ⟨e1, e2⟩ := zd8 hp
       cases e
       refine ⟨e1.trans (.add _ _), fun F x f r => ?_⟩
       obtain ⟨h1, h2, h3⟩ := f.2 _ (List.mem_cons_self ..); subst h1; subst h2; subst h3
       have e3 := (f.of (.add _ _)).get e2
       cases r with
       | aslv _ _ _ a hm => exact .aslv _ _ _ a ((zl8 e3 _).trans hm)
       | asl0 _ _ _ _ b z m o hm ho => exact .asl0 _ _ _ _ b z m o ((zl8 e3 _).trans hm) ho
       | asl _ _ _ _ _ b z m cap hm hn hz ho => exact .asl _ _ _ _ _ b z m cap ((zl8 e3 _).trans hm) hn hz ho
     · cases e
   · cases e
 · split at e
   · rename_i hp hz ho
     obtain rfl := za1 hp
     obtain rfl := za1 hz
     obtain rfl := za1 ho
     split at e
     · rename_i m1 hp
       obtain ⟨e1, e2⟩ := zd8 hp
       cases e
       refine ⟨e1.trans (.add _ _), fun F x f r => ?_⟩
       obtain ⟨h1, h2⟩ := f.2 _ (List.mem_cons_self ..); subst h1; subst h2
       have e3 := (f.of (.add _ _)).get e2
       cases r with
       | aer _ _ _ _ _ b z m hm hi => exact .aer _ _ _ _ _ b z m ((zl8 e3 _).trans hm) hi
     · cases e
   · cases e
 · rename_i kk n has val kk' n' has' val'
   split at e
   · rename_i hk
     obtain rfl := of_decide_eq_true hk
     cases e; refine ⟨.add _ _, fun F x f r => ?_⟩
     obtain ⟨h1, h2, h3⟩ := f.2 _ (List.mem_cons_self ..)
     cases r with
     | mpi _ _ _ _ b es clock kf hD hb hn hk hr =>
       exact .mpi _ _ _ _ b es clock kf hD hb (hn.trans h1) (hk.turn h2) (fun i e he => by
         rw [<- h3 _ (by rw [<- h2]; exact (hk.key i e he).2)]; exact hr i e he)
   · cases e
 · cases e
theorem zg2 : ∀ {vs us : List AV} {m m' : zcq}, zj2 m vs us = some m' -> Ext m m' /\ vs.length = us.length /\ ∀ F, Fin m' F -> ∀ (i : Nat) v u x, vs[i]? = some v -> us[i]? = some u -> R h D μ u x -> R h D (zgf μ F) v x
 | [], [], m, m', e => by cases e; exact ⟨.refl _, rfl, fun F f i v u x hv => by simp at hv⟩
 | [], _ :: _, m, m', e => by cases e
 | _ :: _, [], m, m', e => by cases e
 | v :: vs, u :: us, m, m', e => by
   unfold zj2 at e
   split at e
   · rename_i m1 e1
     obtain ⟨x1, r1⟩ := zpo (h := h) (D := D) (μ := μ) e1
     obtain ⟨x2, l2, r2⟩ := zg2 e
     refine ⟨x1.trans x2, by simp [l2], fun F f i v' u' x hv hu r => ?_⟩
     cases i with
     | zero => simp at hv hu; subst hv; subst hu; exact r1 F x (f.of x2) r
     | succ i => exact r2 F f i v' u' x (by simpa using hv) (by simpa using hu) r
   · cases e
theorem zvo {m m' : zcq} {v u : AV} (e : zgk m v u = some m') : Ext m m' /\ ∀ F x, Fin m' F -> R h D μ u x -> R h D (zgf μ F) v x := by
 unfold zgk at e
 split at e
 · split at e
   · exact zpo e
   · split at e
     · rename_i m1 hf e1
       obtain rfl := za1 hf
       obtain ⟨x1, l1, r1⟩ := zg2 (h := h) (D := D) (μ := μ) e1
       obtain ⟨x2, l2, r2⟩ := zg2 (h := h) (D := D) (μ := μ) e
       refine ⟨x1.trans x2, fun F x f r => ?_⟩
       cases r with
       | fn _ _ _ vs us e1 e2 h1 h2 =>
         refine .fn _ _ _ vs us (by rw [l1, e1]) (by rw [l2, e2]) (fun i v x hv hx => ?_) (fun i v x hv hx => ?_)
         · have hlt := (List.getElem?_eq_some_iff.1 hv).1
           have hu := List.getElem?_eq_getElem (show i < _ by rw [<- l1]; exact hlt)
           exact r1 F (f.of x2) i v _ x hv hu (h1 i _ x hu hx)
         · have hlt := (List.getElem?_eq_some_iff.1 hv).1
           have hu := List.getElem?_eq_getElem (show i < _ by rw [<- l2]; exact hlt)
           exact r2 F f i v _ x hv hu (h2 i _ x hu hx)
     · cases e
 · obtain ⟨x1, l1, r1⟩ := zg2 (h := h) (D := D) (μ := μ) e
   refine ⟨x1, fun F x f r => ?_⟩
   obtain ⟨us, rfl, o1, s1, hr⟩ := r.inv_agg
   refine .agg _ _ (by rw [l1, s1]) o1 fun i v x hv hx => ?_
   obtain ⟨u, hu⟩ : ∃ u, (‹List AV› : List AV)[i]? = some u := by
     refine ⟨_, List.getElem?_eq_getElem ?_⟩
     rw [<- l1]; exact (List.getElem?_eq_some_iff.1 hv).1
   exact r1 F f i v u x hv hu (hr i u x hu hx)
 · exact zpo e
theorem zey {slots : List (Nat × AV)} {a : Act} : ∀ {ts : List (Nat × AV)} {m m' : zcq}, zgz slots ts m = some m' -> Ext m m' /\ ∀ F, Fin m' F -> (∀ t v, za2 slots t = some v -> R h D μ v (a.tmps.getD t undef)) ->
   ∀ t v, za2 ts t = some v -> R h D (zgf μ F) v (a.tmps.getD t undef)
 | [], m, m', e => by cases e; exact ⟨.refl _, fun F f _ t v hv => by cases hv⟩
 | (t, v) :: r, m, m', e => by
   unfold zgz at e
   split at e
   · rename_i u hu
     split at e
     · rename_i m1 e1
       obtain ⟨x1, r1⟩ := zvo (h := h) (D := D) (μ := μ) e1
       obtain ⟨x2, r2⟩ := zey e
       refine ⟨x1.trans x2, fun F f hs t' v' hv => ?_⟩
       unfold za2 at hv
       split at hv
       · rename_i hb; cases hv; rw [<- za1 hb]; exact r1 F _ (f.of x2) (hs _ _ hu)
       · exact r2 F f hs t' v' hv
     · cases e
   · cases e
theorem yge {m m' : zcq} {v u : AV} (e : ylp m u v = some m') : Ext m m' /\ ∀ F x, Fin m' F -> R h D zam u x -> R h D (zgf μ F) v x := by
 unfold ylp at e
 split at e
 · cases e; exact ⟨.refl _, fun F x f r => .dead _⟩
 · split at e
   · rename_i m1 hp
     obtain ⟨e1, e2⟩ := zo6 hp
     cases e
     refine ⟨e1.trans (.add _ _), fun F x f r => ?_⟩
     obtain ⟨h1, h2, h3⟩ := f.2 _ (List.mem_cons_self ..)
     subst h1; subst h2; subst h3
     cases r with | nils => exact .slv _ _ none (zvk (f.getN e2))
   · cases e
 · split at e
   · rename_i x hp
     cases e
     refine ⟨.add _ _, fun F x f r => ?_⟩
     have h1 := f.2 _ (List.mem_cons_self ..)
     subst h1
     exact r.free
   · cases e
theorem zra {y : Nat -> AV} : ∀ {vs : List AV} {j : Nat} {m m' : zcq}, zvl m y j vs = some m' -> Ext m m' /\ ∀ F, Fin m' F -> ∀ (i : Nat) v x, vs[i]? = some v -> R h D zam (y (j + i)) x -> R h D (zgf μ F) v x
 | [], j, m, m', e => by cases e; exact ⟨.refl _, fun F f i v x hv => by simp at hv⟩
 | v :: vs, j, m, m', e => by
   unfold zvl at e
   split at e
   · rename_i m1 e1
     obtain ⟨x1, r1⟩ := yge (h := h) (D := D) (μ := μ) e1
     obtain ⟨x2, r2⟩ := zra e
     refine ⟨x1.trans x2, fun F f i v' x hv r => ?_⟩
     cases i with
     | zero => simp at hv; subst hv; exact r1 F x (f.of x2) r
     | succ i => exact r2 F f i v' x (by simpa using hv) (by rw [show j + 1 + i = j + (i + 1) by omega]; exact r)
   · cases e
theorem zvn : ∀ {l l' : List (Ky × AV)}, ygg l l' = true -> l.map Prod.fst = l'.map Prod.fst
 | [], [], _ => rfl
 | [], _ :: _, e => by cases e
 | _ :: _, [], e => by cases e
 | (k, x) :: l, (k', x') :: l', e => by
   unfold ygg at e
   split at e
   · rename_i h; simp only [List.map_cons, zvn e]; rw [show k = k' from zo9 h]
   · cases e
theorem zob : ∀ {l l' : List (Ky × AV)}, l.map Prod.fst = l'.map Prod.fst -> ∀ {q}, (zbc l q).isSome = (zbc l' q).isSome
 | [], [], _, _ => rfl
 | [], _ :: _, e, _ => by cases e
 | _ :: _, [], e, _ => by cases e
 | (k, x) :: l, (k', x') :: l', e, q => by
   simp only [List.map_cons, List.cons.injEq] at e
   obtain ⟨rfl, e⟩ := e
   simp only [zbc]
   cases kyb k q
   · exact zob e
   · rfl
theorem zoc : ∀ {l l' : List (Ky × AV)}, l.map Prod.fst = l'.map Prod.fst -> ∀ {q y}, zbc l' q = some y -> ∃ (j : Nat) (v u : AV), (zcw Prod.snd l)[j]? = some v /\ (zcw Prod.snd l')[j]? = some u /\ zbc l q = some v /\ u = y
 | [], [], _, _, _, e => by cases e
 | [], _ :: _, e, _, _, _ => by cases e
 | _ :: _, [], e, _, _, _ => by cases e
 | (k, x) :: l, (k', x') :: l', e, q, y, hy => by
   simp only [List.map_cons, List.cons.injEq] at e
   obtain ⟨rfl, e⟩ := e
   simp only [zbc] at hy |-
   cases hk : kyb k q with
   | true => rw [hk] at hy; cases hy; exact ⟨0, x, x', rfl, rfl, rfl, rfl⟩
   | false =>
     rw [hk] at hy
     obtain ⟨j, v, u, h1, h2, h3, h4⟩ := zoc e hy
     exact ⟨j + 1, v, u, h1, h2, h3, h4⟩
theorem ycc {m m' : zcq} {v u : Ob} (e : zm6 m v u = some m') : Ext m m' /\ v ≠ .gone /\ u ≠ .gone /\ ∀ F x, Fin m' F -> ze6 h D μ u x -> ze6 h D (zgf μ F) v x := by
 unfold zm6 at e
 split at e
 · rename_i ty us' ty' us
   split at e
   · rename_i hty
     obtain rfl := za1 hty
     obtain ⟨x1, l1, r1⟩ := zg2 (h := h) (D := D) (μ := μ) e
     refine ⟨x1, by simp, by simp, fun F x f ho => ?_⟩
     match x, ho with
     | some (b, z, mm), ⟨c, t, fr, e1, e2, e3, e4, e5, e6⟩ =>
       refine ⟨c, t, fr, e1, e2, e3, e4, by rw [l1, e5], fun i v x hv hx => ?_⟩
       obtain ⟨u, hu⟩ : ∃ u, us[i]? = some u := by
         refine ⟨_, List.getElem?_eq_getElem ?_⟩
         rw [<- l1]; exact (List.getElem?_eq_some_iff.1 hv).1
       exact r1 F f i v u x hv hu (e6 i u x hu hx)
   · cases e
 · split at e
   · rename_i hty hz
     have := za1 hz; subst this
     obtain rfl := za1 hty
     cases e
     refine ⟨.add _ _, by simp, by simp, fun F x f ho => ?_⟩
     obtain ⟨h1, h2⟩ := f.2 _ (List.mem_cons_self ..); subst h1
     match x, ho with
     | some (b, z, mm), ⟨e0, c, t, fr, e1, e2, e3, e4, e5⟩ =>
       exact ⟨e0, c, t, fr, e1, e2, e3, e4, fun i j hi hj => by
         obtain ⟨v, v1, v2, v3⟩ := e5 i j hi hj
         exact ⟨v, v1, v2, by rw [<- h2 i j hi hj]; exact v3⟩⟩
     | none, ho => exact ho
   · cases e
 · split at e
   · rename_i hq hty hz
     obtain rfl := za1 hq
     obtain rfl := za1 hty
     obtain rfl := za1 hz
     split at e
     · rename_i m1 hp
       obtain ⟨x1, x2⟩ := zd8 hp
       cases e
       refine ⟨x1.trans (.add _ _), by simp, by simp, fun F x f ho => ?_⟩
       obtain ⟨h1, h2⟩ := f.2 _ (List.mem_cons_self ..); subst h1
       have x3 := (f.of (.add _ _)).get x2
       match x, ho with
       | some (b, z, mm), ⟨e0, c, t, fr, e1, e2, e3, e4, e5⟩ =>
         exact ⟨e0, c, t, fr, e1, e2, e3, e4, fun i j hi hj => by
           obtain ⟨v, v1, v2, v3⟩ := e5 i j hi hj
           exact ⟨v, v1, v2, by rw [<- h2 i j hi hj]; exact v3.mono (fun _ _ => rfl) (fun _ h => h) (ylf x3)⟩⟩
       | none, ho => exact ho
     · cases e
   · cases e
 · split at e
   · rename_i hty hz
     obtain rfl := za1 hty
     obtain rfl := za1 hz
     cases e
     refine ⟨.add _ _, by simp, by simp, fun F x f ho => ?_⟩
     obtain ⟨h1, h2⟩ := f.2 _ (List.mem_cons_self ..); subst h1
     match x, ho with
     | some (b, z, mm), ⟨e0, c, t, fr, e1, e2, e3, e4, e5⟩ =>
       exact ⟨e0, c, t, fr, e1, e2, e3, e4, fun i j hi hj => by
         obtain ⟨v, v1, v2, v3⟩ := e5 i j hi hj
         exact ⟨v, v1, v2, by rw [<- h2 i j hi hj]; exact v3.free⟩⟩
     | none, ho => exact ho
   · cases e
 · split at e
   · cases e
     refine ⟨.add _ _, by simp, by simp, fun F x f ho => ?_⟩
     match x, ho with
     | none, _ => exact trivial
     | some y, ho => exact ho
   · cases e
 · rename_i ty cs ty' cs'
   split at e
   · rename_i hty hl
     obtain rfl := za1 hty
     have hl := zb3 hl
     rw [zai, zai] at hl
     obtain ⟨x1, l1, r1⟩ := zg2 (h := h) (D := D) (μ := μ) e
     rw [zai, zaz] at r1
     refine ⟨x1, by simp, by simp, fun F x f ho => ?_⟩
     match x, ho with
     | some (b, z, mm), ⟨c, t, fr, e1, e2, e3, e4, e5⟩ =>
       refine ⟨c, t, fr, e1, e2, e3, by omega, fun i v hv => ?_⟩
       have hi := (List.getElem?_eq_some_iff.1 hv).1
       have hu : cs'[i]? = some (cs'[i]'(by omega)) := by simp
       obtain ⟨x, x1, x2, x3⟩ := e5 i _ hu
       exact ⟨x, x1, x2, r1 F f i v _ x hv (by rw [List.getElem?_take, if_pos hi]; exact hu) x3⟩
     | none, ho =>
       have ho : cs' = [] := ho
       subst ho
       show cs = []
       exact List.eq_nil_of_length_eq_zero (by simpa using hl)
   · cases e
 · rename_i kk n has val kk' n' has' val'
   split at e
   · rename_i hk
     obtain rfl := of_decide_eq_true hk
     cases e
     refine ⟨.add _ _, by simp, by simp, fun F x f ho => ?_⟩
     obtain ⟨h1, h2, h3⟩ := f.2 _ (List.mem_cons_self ..)
     match x, ho with
     | some (b, z), ⟨es, clock, kf, hb, hn, hk, hr⟩ =>
       exact ⟨es, clock, kf, hb, hn.trans h1, hk.turn h2, fun i e he => by
         rw [<- h3 _ (by rw [<- h2]; exact (hk.key i e he).2)]; exact hr i e he⟩
   · cases e
 · rename_i q q'
   cases e
   refine ⟨.add _ _, by simp, by simp, fun F x f ho => ?_⟩
   have h1 := f.2 _ (List.mem_cons_self ..)
   match x, ho with
   | some (b, z), ⟨es, clock, hb, he⟩ => exact ⟨es, clock, hb, fun hq => he (h1 hq)⟩
 · rename_i kk l kk' l'
   split at e
   · rename_i hk hl
     obtain rfl := of_decide_eq_true hk
     have hl := zvn hl
     obtain ⟨x1, l1, r1⟩ := zg2 (h := h) (D := D) (μ := μ) e
     refine ⟨x1, by simp, by simp, fun F x f ho => ?_⟩
     match x, ho with
     | some (b, z), ⟨es, clock, kf, hb, hn, hks, hnd, hr⟩ =>
       have hlen : l'.length = l.length := by have := congrArg List.length hl; simpa using this.symm
       refine ⟨es, clock, kf, hb, hn.trans hlen, hks.turn fun k => ?_, by rw [hl]; exact hnd, fun i e he => ?_⟩
       · rw [zob hl]
       · obtain ⟨y, y1, y2⟩ := hr i e he
         obtain ⟨j, v, u, v1, v2, v3, v4⟩ := zoc hl y1
         subst v4
         exact ⟨v, v3, r1 F f j v _ e.val v1 v2 y2⟩
   · cases e
 · rename_i ty cs ty' sz n get
   split at e
   · rename_i hty
     obtain rfl := za1 hty
     split at e
     · rename_i m1 hm
       cases e
       obtain ⟨x1, r1⟩ := zra (h := h) (D := D) (μ := μ) hm
       refine ⟨x1.trans (.add _ _), by simp, by simp, fun F x f ho => ?_⟩
       have hle := f.2 _ (List.mem_cons_self ..)
       rw [zai] at hle
       match x, ho with
       | some (b, z, mm), ⟨e0, c, t, fr, e1, e2, e3, e4, e5⟩ =>
         refine ⟨c, t, fr, e1, e2, ⟨e3.1, e3.2.1⟩, by omega, fun i v hv => ?_⟩
         have hi := (List.getElem?_eq_some_iff.1 hv).1
         have hs : 0 < sz := by
           rcases Nat.eq_zero_or_pos sz with h0 | h0
           · rw [h0] at hle; omega
           · exact h0
         obtain ⟨x, x1, x2, x3⟩ := e5 (i / sz) (i % sz) (Nat.div_lt_of_lt_mul (by rw [Nat.mul_comm]; omega)) (Nat.mod_lt _ hs)
         rw [show i / sz * sz + i % sz = i by rw [Nat.mul_comm]; exact Nat.div_add_mod i _] at x1
         refine ⟨x, x1, x2, r1 F (f.of (.add _ _)) i v x hv ?_⟩
         rw [Nat.zero_add, yhj _ _ _ hs]
         exact x3
       | none, ho =>
         have ho : n = 0 := ho
         subst ho
         show cs = []
         exact List.eq_nil_of_length_eq_zero (by omega)
     · cases e
   · cases e
 · cases e
theorem zy4 {m m' : zcq} {v : Ob} (e : zm7 m v = some m') : Ext m m' /\ v ≠ .gone /\ ∀ F, Fin m' F -> ze6 h D (zgf μ F) v none := by
 unfold zm7 at e
 split at e
 · cases e
   refine ⟨.add _ _, by simp, fun F f => ?_⟩
   exact (f.2 _ (List.mem_cons_self ..)).symm
 · cases e
   refine ⟨.add _ _, by simp, fun F f => ?_⟩
   exact (f.2 _ (List.mem_cons_self ..)).symm
 · cases e
   exact ⟨.refl _, by simp, fun F f => rfl⟩
 · cases e
def zhb (o o' : Ob) : Prop := zar o' = zar o /\ ∀ ty sz n len get, o = .tab ty sz n len get -> ∃ len' get', o' = .tab ty sz n len' get' /\ (∀ k, k < n -> len' k = len k) /\ ∀ k i j, k < n -> i < len k -> j < sz -> get' k i j = get k i j
theorem zy3 {m m' : zcq} {v u : Ob} (e : zm6 m v u = some m') {F : List (Nat × Option Nat)} (f : Fin m' F) : zhb v u := by
 have no : ∀ {v u : Ob}, zar v = false -> zar u = false -> zhb v u := fun h1 h2 => ⟨by rw [h1, h2], fun ty sz n len get e => by rw [e] at h1; cases h1⟩
 cases v with
 | tab ty sz n len get =>
   cases u with
   | tab ty' sz' n' len' get' =>
     simp only [zm6] at e
     split at e
     · rename_i h1 h2
       obtain rfl := za1 h1
       obtain rfl := za1 h2
       cases e
       obtain ⟨q1, q2, q3⟩ := f.2 _ (List.mem_cons_self ..)
       subst q1
       refine ⟨rfl, fun ty2 sz2 n2 len2 get2 e2 => ?_⟩
       cases e2
       exact ⟨len', get', rfl, q2, q3⟩
     · cases e
   | _ => cases e
 | _ => cases u <;> first | exact no rfl rfl | (exfalso; revert e; simp [zm6])
theorem ztn {m m' : zcq} {v : Ob} (e : zm7 m v = some m') : zar v = false := by
 cases v with
 | tab => simp [zm7] at e
 | _ => rfl
structure ys9 (h : Array Obj) (D : Nat -> Prop) (μ : Mu) (s : St) (ice : List Nat) (F : List (Nat × Option Nat)) (tid : Nat) (o : Ob) : Prop where
 live : o ≠ .gone
 pair : ∃ x, za2 F tid = some x /\ match x with
   | some id => (zbo s.ice id = true -> zbo ice tid = true) /\ ∃ o', za2 s.objs id = some o' /\ o' ≠ .gone /\ ∀ y, ze6 h D μ o' y -> ze6 h D (zgf μ F) o y
   | none => ze6 h D (zgf μ F) o none
 tb : ∀ id, za2 F tid = some (some id) -> ∃ o', za2 s.objs id = some o' /\ zhb o o'
 nt : za2 F tid = some none -> zar o = false
theorem zed {s : St} {ice : List Nat} : ∀ {ts : List (Nat × Ob)} {m m' : zcq}, zi9 s ice ts m = some m' -> Ext m m' /\ ∀ F, Fin m' F -> ∀ tid o, za2 ts tid = some o -> ys9 h D μ s ice F tid o
 | [], m, m', e => by cases e; exact ⟨.refl _, fun F f t o ho => by cases ho⟩
 | (tid, o) :: r, m, m', e => by
   unfold zi9 at e
   split at e
   · rename_i id hid
     have key : ∀ o' m1, za2 s.objs id = some o' -> zm6 m o o' = some m1 -> zi9 s ice r m1 = some m' -> (zbo s.ice id = true -> zbo ice tid = true) -> Ext m m' /\ ∀ F, Fin m' F -> ∀ t o1, za2 ((tid, o) :: r) t = some o1 -> ys9 h D μ s ice F t o1 := by
       intro o' m1 ho' hm e hice
       obtain ⟨x1, n1, n2, r1⟩ := ycc (h := h) (D := D) (μ := μ) hm
       obtain ⟨x2, r2⟩ := zed e
       refine ⟨x1.trans x2, fun F f t o1 ht => ?_⟩
       unfold za2 at ht
       split at ht
       · rename_i hb
         have := za1 hb; subst this
         cases ht
         have hF := f.1 _ _ (x2.ids _ _ (x1.ids _ _ hid))
         exact ⟨n1, ⟨some id, hF, hice, o', ho', n2, fun y hy => r1 F y (f.of x2) hy⟩, fun id2 h2 => by rw [hF] at h2; cases h2; exact ⟨o', ho', zy3 hm (f.of x2)⟩, fun h2 => by rw [hF] at h2; cases h2⟩
       · exact r2 F f t o1 ht
     split at e
     · cases e
     · rename_i hno
       split at e
       · rename_i o' ho'
         split at e
         · rename_i m1 hm
           refine key o' m1 ho' hm e fun hi => ?_
           cases hti : zbo ice tid with
           | true => rfl
           | false => exact absurd hti (hno hi)
         · cases e
       · cases e
   · rename_i hid
     split at e
     · rename_i m1 hm
       obtain ⟨x1, n1, r1⟩ := zy4 (h := h) (D := D) (μ := μ) hm
       obtain ⟨x2, r2⟩ := zed e
       refine ⟨x1.trans x2, fun F f t o1 ht => ?_⟩
       unfold za2 at ht
       split at ht
       · rename_i hb
         have := za1 hb; subst this
         cases ht
         have hF := f.1 _ _ (x2.ids _ _ (x1.ids _ _ hid))
         exact ⟨n1, ⟨none, hF, r1 F (f.of x2)⟩, fun id2 h2 => (by rw [hF] at h2; cases h2), fun _ => ztn hm⟩
       · exact r2 F f t o1 ht
     · cases e
   · cases e
end
theorem zit {l : List Nat} {t : Nat} {x : Option Nat} (h : za2 (zqx l) t = some x) : x = some t := by
 induction l with
 | nil => simp [zqx, za2] at h
 | cons a l ih =>
   unfold zqx za2 at h
   split at h
   · rename_i e; cases h; rw [za1 e]
   · exact ih h
theorem zmf {objs : List (Nat × Ob)} : ∀ {l : List (Nat × Option Nat)}, ycq objs l = true -> ∀ t x, za2 l t = some x -> za2 objs t ≠ none
 | [], _, t, x, h => by cases h
 | (k, y) :: l, e, t, x, h => by
   unfold ycq at e
   split at e
   · rename_i o ho
     unfold za2 at h
     split at h
     · rename_i hb; rw [<- za1 hb]; simp only at ho; rw [ho]; simp
     · exact zmf e t x h
   · cases e
theorem zmi {objs : List (Nat × Ob)} : ∀ {l : List Nat}, yhd objs l = true -> ∀ t, zbo l t = true -> za2 objs t ≠ none
 | [], _, t, h => by cases h
 | k :: l, e, t, h => by
   unfold yhd at e
   split at e
   · rename_i o ho
     unfold zbo at h
     split at h
     · rename_i hb; rw [<- za1 hb, ho]; simp
     · exact zmi e t h
   · cases e
end Sy
end Go.Proofs.YtfonekpmkdkgnaaGreatDoor
namespace Go.Proofs.YtfonekpmkdkgnaaGreatDoor
namespace Sy
open Go Go.RowKit
set_option linter.unusedSimpArgs false
set_option linter.unusedVariables false
set_option linter.unusedSectionVars false
structure ysb (D : Nat -> Prop) (w : World) (μ : Mu) (O O1 : List (Nat × Ob)) (r : AV) (e : Ending) (v : Value) (w' : World) (D' : Nat -> Prop) (μ' : Mu) : Prop where
 ret : e = .returned v
 os : w'.os = w.os
 tape : w'.tape = w.tape
 output : w'.output = w.output
 size : w.heap.size <= w'.heap.size
 old : ∀ b, b < w.heap.size -> (∀ n z, μ n ≠ some (some (b, z))) -> w'.heap[b]? = w.heap[b]?
 up : ∀ b, D b -> D' b
 dn : ∀ b, D' b -> D b \/ (w.heap.size <= b /\ b < w'.heap.size) \/ ∃ n z, μ n = some (some (b, z))
 dom : ∀ n, μ' n = none ↔ gx (za2 O1) n = none
 obs : ∀ n o x, gx (za2 O1) n = some o -> μ' n = some x -> ze6 w'.heap D' μ' o x
 inj : ∀ n n' b z z', μ' n = some (some (b, z)) -> μ' n' = some (some (b, z')) -> n = n'
 own : ∀ n b z, μ' n = some (some (b, z)) -> b < w'.heap.size /\ ¬ D' b /\ (w.heap.size <= b \/ ∃ m z', μ m = some (some (b, z')))
 keep : ∀ n, gx (za2 O) n ≠ none -> gx (za2 O1) n ≠ none -> μ' n = μ n
 val : R w'.heap D' μ' r v
def zce (P : Program) (f : FuncId) (xs : List AV) (O : List (Nat × Ob)) (r : AV) (O1 : List (Nat × Ob)) : Prop :=
 ∀ (D : Nat -> Prop) (w : World) (μ : Mu) (vs : Array Value), (∀ b, D b -> b < w.heap.size) -> RL w.heap D μ xs vs ->
   (∀ n, μ n = none ↔ gx (za2 O) n = none) -> (∀ n o x, gx (za2 O) n = some o -> μ n = some x -> ze6 w.heap D μ o x) ->
   (∀ n n' b z z', μ n = some (some (b, z)) -> μ n' = some (some (b, z')) -> n = n') -> (∀ n b z, μ n = some (some (b, z)) -> b < w.heap.size /\ ¬ D b) -> GOk w -> (∀ n b z, μ n = some (some (b, z)) -> gN <= b) ->
   zeq P f vs w fun e w' => ∃ v D' μ', ysb D w μ O O1 r e v w' D' μ'
structure zzr (g : Nat -> Option Ob) (c : Nat -> Bool) (raw : List AV) (F : List (Nat × Option Nat)) (fr : Nat) (T : yoa) : Prop where
 len : raw.length = T.xs.length
 xs : ∀ h D μ vs, RL h D μ raw vs -> RL h D (zgf μ F) T.xs vs
 inj : Inj F
 dom : ∀ n x, za2 F n = some x -> za2 T.O n ≠ none
 obs : ∀ n o, za2 T.O n = some o -> ∃ x, za2 F n = some x /\ match x with
   | some id => c id = false /\ ∃ o', g id = some o' /\ o' ≠ .gone /\ ∀ h D μ y, ze6 h D μ o' y -> ze6 h D (zgf μ F) o y
   | none => ∀ h D μ, ze6 h D (zgf μ F) o none
 fresh : ∀ n o, za2 T.O1 n = some o -> (∀ id, za2 F n ≠ some (some id)) -> g (fr + n) = none
 unpin : ∀ n o, za2 T.O1 n = some o -> (∀ id, za2 F n ≠ some (some id)) -> zcy (fr + n) = false
 ng : ∀ n, za2 T.O1 n ≠ some .gone
 opl : ∀ n o, za2 T.O n = some o -> n < zcn
 o1pl : ∀ n o, za2 T.O1 n = some o -> n < zcn
 tpl : ∀ n o, za2 T.O1 n = some o -> (∀ id, za2 F n ≠ some (some id)) -> fr + n < zcn /\ zar o = false
 tb : ∀ n o id, za2 T.O n = some o -> za2 F n = some (some id) -> ∃ o', g id = some o' /\ zhb o o'
 nt : ∀ n o, za2 T.O n = some o -> za2 F n = some none -> zar o = false
 tid : ∀ t o, za2 T.O t = some o -> zar o = true -> za2 F t = some (some t)
 tgo : ∀ t ty sz n len get, za2 T.O t = some (.tab ty sz n len get) -> ∃ n' len1 get1, za2 T.O1 t = some (.tab ty sz n' len1 get1) /\ n <= n'
 t1o : ∀ t o, za2 T.O1 t = some o -> zar o = true -> ∃ o', za2 T.O t = some o' /\ zar o' = true
def mOs (F : List (Nat × Option Nat)) (fr : Nat) (T : yoa) : List (Nat × Ob) := zbs (zni F fr T.O1) (zh5 F T.O1 T.O)
theorem zfp {α : Type} (os l : List (Nat × α)) (id : Nat) : za2 (zbs os l) id = match za2 os id with | some o => some o | none => za2 l id := by
 induction os with
 | nil => rfl
 | cons x os ih =>
   obtain ⟨i, o⟩ := x
   simp only [zbs, za2]
   cases za8 i id <;> simp [ih]
def tgX (F : List (Nat × Option Nat)) (fr n : Nat) : Nat := if zax n = true then n else tgt F fr n
theorem zav {F : List (Nat × Option Nat)} {fr n : Nat} (h : n < zcn) : tgX F fr n = tgt F fr n := by unfold tgX; rw [if_neg (by rw [zb6.2 h]; decide)]
theorem zdh {F : List (Nat × Option Nat)} {fr n : Nat} (h : zax n = true) : tgX F fr n = n := by unfold tgX; rw [if_pos h]
section
variable {F : List (Nat × Option Nat)} {fr : Nat} {h : Array Obj} {D : Nat -> Prop} {μ μ' : Mu}
theorem zkn (hμ : ∀ n y, μ n = some y -> μ' (tgX F fr n) = some y) {x : AV} {v : Value} (r : R h D μ x v) : R h D μ' (zjz F fr x) v := by
 cases r with
 | dead v => exact .dead v
 | bool b => exact .bool b
 | int k n => exact .int k n
 | str l s e => exact .str l s e
 | flt k b => exact .flt k b
 | cpx k a b => exact .cpx k a b
 | nilp => exact .nilp
 | nilm => exact .nilm
 | nilf => exact .nilf
 | nils => exact .nils
 | nili => exact .nili
 | ifn => exact .ifn
 | ifs t p => exact .ifs t p
 | emp a cap => exact .emp a cap
 | emz a => exact .emz a
 | lst0 sz get a cap hn => exact .lst0 sz get a cap hn
 | lst sz n get b o cap vs hD hc hv h1 hr => exact .lst sz n get b o cap vs hD hc hv h1 hr
 | lstx sz n get a r => exact .lstx _ _ _ a (ztq r)
 | iptr n get b o vs hD hv h1 hr => exact .iptr n get b o vs hD hv h1 hr
 | arr n get vs e h1 hr => exact .arr n get vs e h1 hr
 | ref id off b z m hm =>
   simp only [zjz]
   split
   · rename_i hb; exact .ref _ off b z m (by rw [<- zav (zas hb)]; exact hμ _ _ hm)
   · exact .dead _
 | eref id sz i off b z m hm hi =>
   simp only [zjz]
   split
   · rename_i hb; exact .eref _ sz i off b z m (by rw [<- zav (zas hb)]; exact hμ _ _ hm) hi
   · exact .dead _
 | slv id sz a hm =>
   simp only [zjz]
   split
   · rename_i hb; exact .slv _ sz a (by rw [<- zav (zas hb)]; exact hμ _ _ hm)
   · exact .dead _
 | sl0 id sz off b z m o hm ho =>
   simp only [zjz]
   split
   · rename_i hb; exact .sl0 _ sz off b z m o (by rw [<- zav (zas hb)]; exact hμ _ _ hm) ho
   · exact .dead _
 | sl id sz off n b z m cap hm hn hz ho =>
   simp only [zjz]
   split
   · rename_i hb; exact .sl _ sz off n b z m cap (by rw [<- zav (zas hb)]; exact hμ _ _ hm) hn hz ho
   · exact .dead _
 | slcv id sz a hm =>
   simp only [zjz]
   split
   · rename_i hb; exact .slcv _ sz a (by rw [<- zav (zas hb)]; exact hμ _ _ hm)
   · exact .dead _
 | slc0 id sz off b z m o hm ho =>
   simp only [zjz]
   split
   · rename_i hb; exact .slc0 _ sz off b z m o (by rw [<- zav (zas hb)]; exact hμ _ _ hm) ho
   · exact .dead _
 | slc id sz off n cap b z m hm hn hz ho =>
   simp only [zjz]
   split
   · rename_i hb; exact .slc _ sz off n cap b z m (by rw [<- zav (zas hb)]; exact hμ _ _ hm) hn hz ho
   · exact .dead _
 | fn f xs ys vs us e1 e2 h1 h2 =>
   simp only [zjz]
   split
   · rename_i hf; exact (zdb (.fn f xs ys vs us e1 e2 h1 h2) hf).free
   · exact .dead _
 | agg cs vs e h1 hr => exact .dead _
 | tup cs vs e hr => exact .dead _
 | mp id b z m hm =>
   simp only [zjz]
   split
   · rename_i hb; exact .mp _ b z m (by rw [<- zav (zas hb)]; exact hμ _ _ hm)
   · exact .dead _
 | bidx id off n i b z m hm hi =>
   simp only [zjz]
   split
   · rename_i hb; exact .bidx _ off n i b z m (by rw [<- zav (zas hb)]; exact hμ _ _ hm) hi
   · exact .dead _
 | mpi kk n has val b es clock kf hD hb hn hk hr => exact .mpi kk n has val b es clock kf hD hb hn hk hr
 | aer p k sz i off b z m hm hi =>
   simp only [zjz]
   split
   · rename_i hb; exact .aer _ _ _ _ _ b z m (by have := hμ _ _ hm; rwa [zdh (zff (zas hb) k).1] at this) hi
   · exact .dead _
 | aslv p k sz a hm =>
   simp only [zjz]
   split
   · rename_i hb; exact .aslv _ _ _ a (by have := hμ _ _ hm; rwa [zdh (zff (zas hb) k).1] at this)
   · exact .dead _
 | asl0 p k sz off b z m o hm ho =>
   simp only [zjz]
   split
   · rename_i hb; exact .asl0 _ _ _ _ b z m o (by have := hμ _ _ hm; rwa [zdh (zff (zas hb) k).1] at this) ho
   · exact .dead _
 | asl p k sz off n b z m cap hm hn hz ho =>
   simp only [zjz]
   split
   · rename_i hb; exact .asl _ _ _ _ _ b z m cap (by have := hμ _ _ hm; rwa [zdh (zff (zas hb) k).1] at this) hn hz ho
   · exact .dead _
theorem zhk {α β : Type} (k : α -> β) (l : List α) (i : Nat) : (zcw k l)[i]? = l[i]?.map k := by
 induction l generalizing i with
 | nil => rfl
 | cons x l ih => cases i with
   | zero => rfl
   | succ i => simp [zcw, ih]
theorem zg5 {α β : Type} (k : α -> β) (l : List α) : (zcw k l).length = l.length := by
 induction l with
 | nil => rfl
 | cons x l ih => simp [zcw, ih]
theorem ypq (hμ : ∀ n y, μ n = some y -> μ' (tgX F fr n) = some y) {x : AV} {v : Value} (r : R h D μ x v) : R h D μ' (ypr F fr x) v := by
 unfold ypr
 split
 · obtain ⟨us, rfl, o1, s1, hr⟩ := r.inv_agg
   refine .agg _ _ (by rw [zg5]; exact s1) o1 fun i x v hx hv => ?_
   rw [zhk] at hx
   obtain ⟨y, hy, rfl⟩ := Option.map_eq_some_iff.1 hx
   exact zkn hμ (hr i y v hy hv)
 · obtain ⟨us, rfl, l1, hr⟩ := r.inv_tup
   refine .tup _ _ (by rw [zg5]; exact l1) fun i x v hx hv => ?_
   rw [zhk] at hx
   obtain ⟨y, hy, rfl⟩ := Option.map_eq_some_iff.1 hx
   exact zkn hμ (hr i y v hy hv)
 · split
   · rename_i hf; exact (zdb r hf).free
   · cases r with
     | fn f xs ys vs us e1 e2 h1 h2 =>
       refine .fn _ _ _ _ _ (by rw [zg5]; exact e1) (by rw [zg5]; exact e2) (fun i x v hx hv => ?_) (fun i x v hx hv => ?_)
       · rw [zhk] at hx
         obtain ⟨y, hy, rfl⟩ := Option.map_eq_some_iff.1 hx
         exact zkn hμ (h1 i y v hy hv)
       · rw [zhk] at hx
         obtain ⟨y, hy, rfl⟩ := Option.map_eq_some_iff.1 hx
         exact zkn hμ (h2 i y v hy hv)
 · exact zkn hμ r
theorem yfn (hμ : ∀ n y, μ n = some y -> μ' (tgX F fr n) = some y) {o : Ob} {x : Option (Nat × Nat × Nat)} (k : ze6 h D μ o x) : ze6 h D μ' (zlz F fr o) x := by
 match o, x, k with
 | .box ty cs, some (b, z, m), ⟨c, t, q, e, r1, r2, r3, r4, r5⟩ =>
   refine ⟨c, t, q, e, r1, r2, r3, by rw [zg5]; exact r4, fun i x v hx hv => ?_⟩
   rw [zhk] at hx
   obtain ⟨y, hy, rfl⟩ := Option.map_eq_some_iff.1 hx
   exact zkn hμ (r5 i y v hy hv)
 | .row ty sz n get, some (b, z, m), k => exact k
 | .spr ty cs, some (b, z, m), ⟨c, t, q, e, r1, r2, r3, r4⟩ =>
   refine ⟨c, t, q, e, r1, r2, by rw [zg5]; exact r3, fun i x hx => ?_⟩
   rw [zhk] at hx
   obtain ⟨y, hy, rfl⟩ := Option.map_eq_some_iff.1 hx
   obtain ⟨v, v1, v2, v3⟩ := r4 i y hy
   exact ⟨v, v1, v2, zkn hμ v3⟩
 | .rowp q ty sz n get, some (b, z, m), ⟨e0, c, t, fr, k1, k2, k3, k4, k5⟩ =>
   refine ⟨e0, c, t, fr, k1, k2, k3, k4, fun i j hi hj => ?_⟩
   obtain ⟨v, v1, v2, v3⟩ := k5 i j hi hj
   refine ⟨v, v1, v2, v3.mono (fun _ _ => rfl) (fun _ h => h) (fun id x hx => ?_)⟩
   have hx2 := yq1 hx
   unfold pm at hx |-
   split at hx
   · rename_i hm
     rw [if_pos hm]
     have := hμ _ _ hx2
     rwa [zdh hm.1] at this
   · cases hx
 | .rowp _ _ _ n _, none, k => exact k
 | .tab _ _ _ _ _, none, _ => exact trivial
 | .map kk n has val, some (b, z), k => exact k
 | .mapq e, some (b, z), k => exact k
 | .mapl kk l, some (b, z), ⟨es, clock, kf, e, r1, r2, r3, r4⟩ =>
   have hm : ∀ l : List (Ky × AV), (zcw (fun x => (x.1, zjz F fr x.2)) l).map Prod.fst = l.map Prod.fst := by
     intro l
     induction l with
     | nil => rfl
     | cons x l ih => simp [zcw, ih]
   have hk : ∀ (l : List (Ky × AV)) q, zbc (zcw (fun x => (x.1, zjz F fr x.2)) l) q = (zbc l q).map (zjz F fr) := by
     intro l q
     induction l with
     | nil => rfl
     | cons x l ih => obtain ⟨k, x⟩ := x; simp only [zcw, zbc]; split <;> simp [ih]
   refine ⟨es, clock, kf, e, by rw [zg5]; exact r1, ?_, by rw [hm]; exact r3, fun i e' he' => ?_⟩
   · simp only [hk, Option.isSome_map]; exact r2
   · obtain ⟨y, y1, y2⟩ := r4 i e' he'
     exact ⟨_, by rw [hk, y1]; rfl, zkn hμ y2⟩
 | .row _ _ n _, none, k => exact k
 | .spr _ cs, none, k =>
   have k : cs = [] := k
   subst k
   rfl
 | .gone, _, _ => exact trivial
end
theorem zm5 {F : List (Nat × Option Nat)} {fr : Nat} : ∀ {O1 : List (Nat × Ob)} {i : Nat} {ob : Ob}, za2 (zni F fr O1) i = some ob -> ∃ n o, (n, o) ∈ O1 /\ tgt F fr n = i /\ ob = zlz F fr o
 | [], i, ob, h => by cases h
 | (n, o) :: r, i, ob, h => by
   unfold zni za2 at h
   split at h
   · rename_i e; cases h; exact ⟨n, o, by simp, za1 e, rfl⟩
   · obtain ⟨m, o', h1, h2, h3⟩ := zm5 h
     exact ⟨m, o', List.mem_cons_of_mem _ h1, h2, h3⟩
theorem zpl {F : List (Nat × Option Nat)} {fr : Nat} : ∀ {O1 : List (Nat × Ob)} (_ : ∀ n n', za2 O1 n ≠ none -> za2 O1 n' ≠ none -> tgt F fr n = tgt F fr n' -> n = n') {n : Nat} {o : Ob}, za2 O1 n = some o -> za2 (zni F fr O1) (tgt F fr n) = some (zlz F fr o)
 | [], hi, n, o, h => by cases h
 | (m, o') :: r, hi, n, o, h => by
   have h0 := h
   unfold za2 at h
   unfold zni za2
   cases e : za8 m n with
   | true =>
     have := za1 e; subst this
     rw [e] at h; cases h
     simp [za3]
   | false =>
     rw [e] at h
     simp only at h
     have hne : m ≠ n := by rintro rfl; rw [za3] at e; cases e
     have : za8 (tgt F fr m) (tgt F fr n) = false := zak fun x => hne (hi m n (by simp [za2, za3]) (by rw [h0]; simp) x)
     rw [this]
     refine zpl (O1 := r) (fun k k' h1 h2 h3 => hi k k' ?_ ?_ h3) h
     · unfold za2; split
       · simp
       · exact h1
     · unfold za2; split
       · simp
       · exact h2
theorem zpn {α : Type} : ∀ {l : List (Nat × α)} {n : Nat} {o : α}, (n, o) ∈ l -> za2 l n ≠ none
 | (m, o') :: r, n, o, h => by
   unfold za2
   split
   · simp
   · rename_i e
     rcases List.mem_cons.1 h with h | h
     · cases h; rw [za3] at e; cases e
     · exact zpn h
theorem zoe {F : List (Nat × Option Nat)} {O1 : List (Nat × Ob)} : ∀ {O : List (Nat × Ob)} {i : Nat} {ob : Ob}, za2 (zh5 F O1 O) i = some ob -> ob = .gone /\ ∃ n, za2 O n ≠ none /\ za2 O1 n = none /\ za2 F n = some (some i)
 | [], i, ob, h => by cases h
 | (n, o) :: r, i, ob, h => by
   have up : ∀ {m}, za2 r m ≠ none -> za2 ((n, o) :: r) m ≠ none := by
     intro m hm
     unfold za2
     split
     · simp
     · exact hm
   have down : za2 (zh5 F O1 r) i = some ob -> ob = .gone /\ ∃ m, za2 ((n, o) :: r) m ≠ none /\ za2 O1 m = none /\ za2 F m = some (some i) := fun h => by
     obtain ⟨h1, m, h2, h3, h4⟩ := zoe h
     exact ⟨h1, m, up h2, h3, h4⟩
   unfold zh5 at h
   split at h
   · exact down h
   · rename_i h1
     split at h
     · rename_i id hid
       unfold za2 at h
       split at h
       · rename_i e
         cases h
         exact ⟨rfl, n, by simp [za2, za3], h1, by rw [hid, za1 e]⟩
       · exact down h
     · exact down h
theorem zmk {F : List (Nat × Option Nat)} {O1 : List (Nat × Ob)} : ∀ {O : List (Nat × Ob)} {n i : Nat}, za2 O n ≠ none -> za2 O1 n = none -> za2 F n = some (some i) -> za2 (zh5 F O1 O) i = some .gone
 | [], n, i, h, _, _ => by simp [za2] at h
 | (m, o) :: r, n, i, h, h1, h2 => by
   unfold zh5
   unfold za2 at h
   cases e : za8 m n with
   | true =>
     have := za1 e; subst this
     rw [h1, h2]
     simp [za2, za3]
   | false =>
     rw [e] at h
     have ih := zmk (O := r) h h1 h2
     split
     · exact ih
     · split
       · unfold za2; split
         · rfl
         · exact ih
       · exact ih
section
variable {P : Program} {base : Nat} {M : Two} {W : World} {nt : Nat} {f : Nat -> Option AV} {g : Nat -> Option Ob} {c : Nat -> Bool} {a : Act} {w : World} {D : Nat -> Prop} {μ : Mu}
variable {raw : List AV} {F : List (Nat × Option Nat)} {fr : Nat} {T : yoa}
theorem zzr.tgt_inj (hm : zzr g c raw F fr T) : ∀ n n', za2 T.O1 n ≠ none -> za2 T.O1 n' ≠ none -> tgt F fr n = tgt F fr n' -> n = n' := by
 have key : ∀ n n' id, za2 T.O1 n' ≠ none -> za2 F n = some (some id) -> (∀ id, za2 F n' ≠ some (some id)) -> id ≠ fr + n' := by
   intro n n' id h1 h2 h3 e
   obtain ⟨o, ho⟩ := Option.ne_none_iff_exists'.1 (hm.dom n _ h2)
   obtain ⟨x, hx, hx2⟩ := hm.obs n o ho
   rw [h2] at hx; cases hx
   obtain ⟨_, o', ho', _⟩ := hx2
   obtain ⟨o1, ho1⟩ := Option.ne_none_iff_exists'.1 h1
   rw [e, hm.fresh n' o1 ho1 h3] at ho'
   cases ho'
 have no : ∀ {n}, ¬ (∃ id, za2 F n = some (some id)) -> (∀ id, za2 F n ≠ some (some id)) /\ tgt F fr n = fr + n := by
   intro n h
   refine ⟨fun id e => h ⟨id, e⟩, ?_⟩
   unfold tgt
   split
   · rename_i id e; exact absurd ⟨id, e⟩ h
   · rfl
 have yes : ∀ {n id}, za2 F n = some (some id) -> tgt F fr n = id := by
   intro n id h; unfold tgt; rw [h]
 intro n n' h1 h2 h3
 by_cases e : ∃ id, za2 F n = some (some id) <;> by_cases e' : ∃ id, za2 F n' = some (some id)
 · obtain ⟨id, e⟩ := e
   obtain ⟨id', e'⟩ := e'
   rw [yes e, yes e'] at h3
   subst h3
   exact hm.inj _ _ _ e e'
 · obtain ⟨id, e⟩ := e
   obtain ⟨q1, q2⟩ := no e'
   rw [yes e, q2] at h3
   exact absurd h3 (key n n' id h2 e q1)
 · obtain ⟨id, e'⟩ := e'
   obtain ⟨q1, q2⟩ := no e
   rw [yes e', q2] at h3
   exact absurd h3.symm (key n' n id h1 e' q1)
 · rw [(no e).2, (no e').2] at h3
   omega
theorem zr0 {o : Ob} : zar (zlz F fr o) = zar o := by cases o <;> rfl
theorem zhb.mem {o o' : Ob} (h : zhb o o') (k : Nat) : (zet (some o) k = none ↔ zet (some o') k = none) /\ ∀ r, zet (some o) k = some r -> ∃ ty sz m get get', r = .row ty sz m get /\ zet (some o') k = some (.row ty sz m get') /\ ∀ i j, i < m -> j < sz -> get' i j = get i j := by
 cases e : zar o with
 | false =>
   have e' := h.1
   rw [e] at e'
   rw [zcc (o := some o) (fun x hx => by cases hx; exact e), zcc (o := some o') (fun x hx => by cases hx; exact e')]
   exact ⟨Iff.rfl, fun r hr => by cases hr⟩
 | true =>
   cases o with
   | tab ty sz n len get =>
     obtain ⟨len', get', rfl, q1, q2⟩ := h.2 ty sz n len get rfl
     simp only [zet]
     by_cases hk : k < n
     · rw [if_pos hk, if_pos hk]
       refine ⟨⟨fun h => (by cases h), fun h => (by cases h)⟩, fun r hr => ?_⟩
       cases hr
       exact ⟨ty, sz, len k, get k, get' k, rfl, by rw [q1 k hk], fun i j hi hj => q2 k i j hk hi hj⟩
     · rw [if_neg hk, if_neg hk]
       exact ⟨Iff.rfl, fun r hr => by cases hr⟩
   | _ => cases e
def gF (F : List (Nat × Option Nat)) (O : Nat -> Option Ob) (n : Nat) : Option (Option Nat) := if zax n = true then (match gx O n with | some _ => some (some n) | none => none) else za2 F n
structure MX (w : World) (D : Nat -> Prop) (μ : Mu) (c : Nat -> Bool) (G G' : Nat -> Option Ob) (mu : Mu) (GF : Nat -> Option (Option Nat)) (TG : Nat -> Nat) (O O1 : Nat -> Option Ob) (ren : Ob -> Ob) : Prop where
 muF : ∀ n, mu n = match GF n with | some (some id) => μ id | some none => some none | none => none
 inj : ∀ t t' id, GF t = some (some id) -> GF t' = some (some id) -> t = t'
 dom : ∀ n x, GF n = some x -> O n ≠ none
 obs : ∀ n o, O n = some o -> ∃ x, GF n = some x /\ match x with
   | some id => c id = false /\ ∃ o', G id = some o' /\ o' ≠ .gone /\ ∀ y, ze6 w.heap D μ o' y -> ze6 w.heap D mu o y
   | none => ze6 w.heap D mu o none
 tgF : ∀ n id, GF n = some (some id) -> TG n = id
 fresh : ∀ n o, O1 n = some o -> (∀ id, GF n ≠ some (some id)) -> G (TG n) = none /\ zcy (TG n) = false
 tin : ∀ n n', O1 n ≠ none -> O1 n' ≠ none -> TG n = TG n' -> n = n'
 g1 : ∀ n o, O1 n = some o -> G' (TG n) = some (ren o)
 g2 : ∀ i, (¬ ∃ n, O1 n ≠ none /\ TG n = i) -> (∃ n, O n ≠ none /\ O1 n = none /\ GF n = some (some i)) -> G' i = some .gone
 g3 : ∀ i, (¬ ∃ n, O1 n ≠ none /\ TG n = i) -> (¬ ∃ n, O n ≠ none /\ O1 n = none /\ GF n = some (some i)) -> G' i = G i
theorem zzr.isTab_O (hm : zzr g c raw F fr T) {n k : Nat} {o r : Ob} (ho : za2 T.O n = some o) (hr : zet (some o) k = some r) : zar o = true := by
 cases e : zar o with
 | true => rfl
 | false => rw [zcc (o := some o) (fun x hx => by cases hx; exact e)] at hr; cases hr
theorem zzr.toX (hm : zzr g c raw F fr T) (h : Sim base M W nt f g c a w D μ) : MX w D μ c (gx g) (gx (zbe g (mOs F fr T))) (zgf μ F) (gF F (za2 T.O)) (tgX F fr) (gx (za2 T.O)) (gx (za2 T.O1)) (zlz F fr) /\ zik (zbe g (mOs F fr T)) := by
 have tin := hm.tgt_inj
 have gv : ∀ t o, za2 T.O t = some o -> zar o = true -> za2 F t = some (some t) /\ ∃ o', g t = some o' /\ zhb o o' := fun t o ho ht => by
   have hF := hm.tid t o ho ht
   exact ⟨hF, hm.tb t o t ho hF⟩
 have tg : ∀ t o, za2 T.O t = some o -> zar o = true -> ∃ o1, za2 T.O1 t = some o1 /\ zar o1 = true /\ ∀ k, zet (some o1) k = none -> zet (some o) k = none := fun t o ho ht => by
   cases o with
   | tab ty sz n len get =>
     obtain ⟨n', len1, get1, q1, q2⟩ := hm.tgo t ty sz n len get ho
     refine ⟨_, q1, rfl, fun k hk => ?_⟩
     simp only [zet] at hk |-
     split at hk
     · cases hk
     · rw [if_neg (by omega)]
   | _ => cases ht
 have pln : ∀ id o, g id = some o -> id < zcn := fun id o ho => (h.tbs id o ho).1
 have nomid : ∀ {i}, i < zcn -> ¬ zax i = true := fun hi => by rw [zb6.2 hi]; decide
 have gxm : ∀ (G : Nat -> Option Ob) {i}, zax i = true -> gx G i = zet (G (zgy i)) (zqe i) := fun G i hi => by unfold gx; rw [if_pos hi]
 have tgP : ∀ n o, za2 T.O1 n = some o -> tgt F fr n < zcn := fun n o ho => by
   unfold tgt
   split
   · rename_i id hid
     obtain ⟨o0, ho0⟩ := Option.ne_none_iff_exists'.1 (hm.dom n _ hid)
     obtain ⟨o', q, _⟩ := hm.tb n o0 id ho0 hid
     exact pln _ _ q
   · rename_i hno
     exact (hm.tpl n o ho (fun id e => hno id e)).1
 have gFp : ∀ {n}, ¬ zax n = true -> gF F (za2 T.O) n = za2 F n := fun hn => by unfold gF; rw [if_neg hn]
 have gFm : ∀ {n}, zax n = true -> gF F (za2 T.O) n = match gx (za2 T.O) n with | some _ => some (some n) | none => none := fun hn => by unfold gF; rw [if_pos hn]
 have hos1 : ∀ n o, za2 T.O1 n = some o -> zbe g (mOs F fr T) (tgt F fr n) = some (zlz F fr o) := by
   intro n o ho
   unfold zbe mOs
   rw [zfp, zpl tin ho]
 have hos2 : ∀ i, (¬ ∃ n, za2 T.O1 n ≠ none /\ tgt F fr n = i) -> (∃ n, za2 T.O n ≠ none /\ za2 T.O1 n = none /\ za2 F n = some (some i)) -> zbe g (mOs F fr T) i = some .gone := by
   rintro i hn ⟨n, h1, h2, h3⟩
   unfold zbe mOs
   rw [zfp]
   cases e : za2 (zni F fr T.O1) i with
   | some ob =>
     obtain ⟨m, o, q1, q2, _⟩ := zm5 e
     exact absurd ⟨m, zpn q1, q2⟩ hn
   | none => simp only; rw [zmk h1 h2 h3]
 have hos3 : ∀ i, (¬ ∃ n, za2 T.O1 n ≠ none /\ tgt F fr n = i) -> (¬ ∃ n, za2 T.O n ≠ none /\ za2 T.O1 n = none /\ za2 F n = some (some i)) -> zbe g (mOs F fr T) i = g i := by
   intro i hn hn2
   unfold zbe mOs
   rw [zfp]
   cases e : za2 (zni F fr T.O1) i with
   | some ob =>
     obtain ⟨m, o, q1, q2, _⟩ := zm5 e
     exact absurd ⟨m, zpn q1, q2⟩ hn
   | none =>
     simp only
     cases e2 : za2 (zh5 F T.O1 T.O) i with
     | none => rfl
     | some ob => exact absurd (zoe e2).2 hn2
 have mem3 : ∀ t k, (∀ o, za2 T.O1 t = some o -> zar o = false) -> zet (zbe g (mOs F fr T) t) k = zet (g t) k := by
   intro t k hno
   by_cases e1 : ∃ n, za2 T.O1 n ≠ none /\ tgt F fr n = t
   · obtain ⟨n, hn, rfl⟩ := e1
     obtain ⟨o, ho⟩ := Option.ne_none_iff_exists'.1 hn
     rw [hos1 n o ho]
     have hot : zar o = false := by
       cases e : zar o with
       | false => rfl
       | true =>
         obtain ⟨o', q1, q2⟩ := hm.t1o n o ho e
         have hF := hm.tid n o' q1 q2
         have ht : tgt F fr n = n := by unfold tgt; rw [hF]
         rw [ht] at hno
         rw [hno o ho] at e; cases e
     rw [zcc (o := some (zlz F fr o)) (fun x hx => by cases hx; rw [zr0]; exact hot)]
     by_cases e2 : ∃ id, za2 F n = some (some id)
     · obtain ⟨id, hid⟩ := e2
       have ht : tgt F fr n = id := by unfold tgt; rw [hid]
       obtain ⟨o0, ho0⟩ := Option.ne_none_iff_exists'.1 (hm.dom n _ hid)
       obtain ⟨o', q1, q2⟩ := hm.tb n o0 id ho0 hid
       rw [ht, q1]
       have h0 : zar o0 = false := by
         cases e : zar o0 with
         | false => rfl
         | true =>
           obtain ⟨o1, r1, r2, _⟩ := tg n o0 ho0 e
           rw [ho] at r1; cases r1
           rw [hot] at r2; cases r2
       have := q2.1
       rw [h0] at this
       exact (zcc (o := some o') (fun x hx => by cases hx; exact this) k).symm
     · have hno2 : ∀ id, za2 F n ≠ some (some id) := fun id e => e2 ⟨id, e⟩
       have ht : tgt F fr n = fr + n := by
         unfold tgt
         split
         · rename_i id e; exact absurd e (hno2 id)
         · rfl
       rw [ht, hm.fresh n o ho hno2]
       rfl
   · by_cases e2 : ∃ n, za2 T.O n ≠ none /\ za2 T.O1 n = none /\ za2 F n = some (some t)
     · rw [hos2 t e1 e2]
       obtain ⟨n, h1, h2, h3⟩ := e2
       obtain ⟨o0, ho0⟩ := Option.ne_none_iff_exists'.1 h1
       obtain ⟨o', q1, q2⟩ := hm.tb n o0 t ho0 h3
       rw [q1]
       have h0 : zar o0 = false := by
         cases e : zar o0 with
         | false => rfl
         | true =>
           obtain ⟨o1, r1, _⟩ := tg n o0 ho0 e
           rw [h2] at r1; cases r1
       have := q2.1
       rw [h0] at this
       exact (zcc (o := some o') (fun x hx => by cases hx; exact this) k).symm
     · rw [hos3 t e1 e2]
 refine ⟨⟨fun n => ?_, fun t t' id h1 h2 => ?_, fun n x hx => ?_, fun n o ho => ?_, fun n id hid => ?_, fun n o ho hno => ?_, fun n n' h1 h2 h3 => ?_, fun n o ho => ?_, fun i h1 h2 => ?_, fun i h1 h2 => ?_⟩, fun id o ho => ?_⟩
 · by_cases hn : zax n = true
   · rw [gFm hn]
     unfold zgf
     rw [if_pos hn]
     have e := gxm (za2 T.O) hn
     cases ho : za2 T.O (zgy n) with
     | none =>
       rw [ho] at e
       rw [show gx (za2 T.O) n = none from e]
       simp only
       rw [if_neg]
       intro hF
       exact hm.dom _ _ hF ho
     | some o =>
       rw [ho] at e
       cases ht : zar o with
       | true =>
         obtain ⟨hF, o', q1, q2⟩ := gv _ o ho ht
         rw [if_pos hF]
         cases hx : gx (za2 T.O) n with
         | some _ => rfl
         | none =>
           simp only
           rw [h.domx n, gxm g hn, q1]
           rw [e] at hx
           exact (q2.mem _).1.1 hx
       | false =>
         have e0 : gx (za2 T.O) n = none := by rw [e]; exact zcc (fun x hx => by cases hx; exact ht) _
         rw [e0]
         simp only
         split
         · rename_i hF
           obtain ⟨o', q1, q2⟩ := hm.tb _ o _ ho hF
           have := q2.1
           rw [ht] at this
           rw [h.domx n, gxm g hn, q1]
           exact zcc (fun x hx => by cases hx; exact this) _
         · rfl
   · rw [gFp hn, zhi (by have := mt zcz.2 hn; omega)]; rfl
 · have key : ∀ t id, zax t = true -> gF F (za2 T.O) t = some (some id) -> id = t := fun t id ht e => by
     rw [gFm ht] at e
     split at e
     · cases e; rfl
     · cases e
   have pk : ∀ t id, ¬ zax t = true -> gF F (za2 T.O) t = some (some id) -> id < zcn := fun t id ht e => by
     rw [gFp ht] at e
     obtain ⟨o, ho⟩ := Option.ne_none_iff_exists'.1 (hm.dom t _ e)
     obtain ⟨o', q, _⟩ := hm.tb t o id ho e
     exact pln _ _ q
   by_cases e1 : zax t = true <;> by_cases e2 : zax t' = true
   · rw [<- key t id e1 h1, <- key t' id e2 h2]
   · have q1 := key t id e1 h1
     have q2 := pk t' id e2 h2
     rw [q1] at q2
     exact absurd e1 (nomid q2)
   · have q1 := key t' id e2 h2
     have q2 := pk t id e1 h1
     rw [q1] at q2
     exact absurd e2 (nomid q2)
   · rw [gFp e1] at h1
     rw [gFp e2] at h2
     exact hm.inj _ _ _ h1 h2
 · by_cases hn : zax n = true
   · rw [gFm hn] at hx
     intro e
     rw [e] at hx; cases hx
   · rw [gFp hn] at hx
     obtain ⟨o, ho⟩ := Option.ne_none_iff_exists'.1 (hm.dom n _ hx)
     rw [zah (by simpa using hn), ho]; simp
 · by_cases hn : zax n = true
   · rw [gFm hn, ho]
     refine ⟨some n, rfl, h.icm n hn, ?_⟩
     rw [gxm (za2 T.O) hn] at ho
     cases ho0 : za2 T.O (zgy n) with
     | none => rw [ho0] at ho; cases ho
     | some o0 =>
       rw [ho0] at ho
       obtain ⟨hF, o', q1, q2⟩ := gv _ o0 ho0 (hm.isTab_O ho0 ho)
       obtain ⟨ty, sz, m, get, get', rfl, r1, r2⟩ := (q2.mem _).2 o ho
       refine ⟨_, by rw [gxm g hn, q1]; exact r1, by simp, fun y k => ?_⟩
       match y, k with
       | none, k => exact k
       | some (b, z, m'), ⟨e0, cc, t, fr', k1, k2, k3, k4, k5⟩ =>
         exact ⟨e0, cc, t, fr', k1, k2, k3, k4, fun i j hi hj => by
           obtain ⟨v, v1, v2, v3⟩ := k5 i j hi hj
           exact ⟨v, v1, v2, by rw [<- r2 i j hi hj]; exact v3⟩⟩
   · rw [zah (by simpa using hn)] at ho
     obtain ⟨x, hx, hx2⟩ := hm.obs n o ho
     rw [gFp hn]
     refine ⟨x, hx, ?_⟩
     cases x with
     | none => exact hx2 _ _ _
     | some id =>
       obtain ⟨c1, o', q1, q2, q3⟩ := hx2
       exact ⟨c1, o', h.tbs.up q1, q2, fun y => q3 _ _ _ y⟩
 · by_cases hn : zax n = true
   · rw [gFm hn] at hid
     rw [zdh hn]
     split at hid
     · cases hid; rfl
     · cases hid
   · rw [gFp hn] at hid
     rw [zav (by have := mt zcz.2 hn; omega)]
     unfold tgt; rw [hid]
 · by_cases hn : zax n = true
   · rw [zdh hn]
     refine ⟨?_, zj6 (Nat.le_trans zqa (zcz.1 hn))⟩
     have ho2 := ho
     rw [gxm (za2 T.O1) hn] at ho
     cases ho1 : za2 T.O1 (zgy n) with
     | none => rw [ho1] at ho; cases ho
     | some o1 =>
       rw [ho1] at ho
       obtain ⟨o0, q1, q2⟩ := hm.t1o _ o1 ho1 (by
         cases e : zar o1 with
         | true => rfl
         | false => rw [zcc (o := some o1) (fun x hx => by cases hx; exact e)] at ho; cases ho)
       obtain ⟨hF, o', r1, r2⟩ := gv _ o0 q1 q2
       rw [gxm g hn, r1]
       refine (r2.mem _).1.1 ?_
       have hz : gx (za2 T.O) n = none := by
         cases hz : gx (za2 T.O) n with
         | none => rfl
         | some y => exact absurd (by rw [gFm hn, hz]) (hno n)
       rw [gxm (za2 T.O) hn, q1] at hz
       exact hz
   · have hlt : n < zcn := by have := mt zcz.2 hn; omega
     rw [zah (by simpa using hn)] at ho
     have hno' : ∀ id, za2 F n ≠ some (some id) := fun id e => hno id (by rw [gFp hn]; exact e)
     have ht : tgt F fr n = fr + n := by
       unfold tgt
       split
       · rename_i id e; exact absurd e (hno' id)
       · rfl
     rw [zav hlt, ht, zah (zb6.2 (hm.tpl n o ho hno').1)]
     exact ⟨hm.fresh n o ho hno', hm.unpin n o ho hno'⟩
 · by_cases e1 : zax n = true <;> by_cases e2 : zax n' = true
   · rw [zdh e1, zdh e2] at h3; exact h3
   · rw [zah (by simpa using e2)] at h2
     obtain ⟨o, ho⟩ := Option.ne_none_iff_exists'.1 h2
     rw [zdh e1, zav (hm.o1pl n' o ho)] at h3
     have := tgP n' o ho
     rw [<- h3] at this
     exact absurd e1 (nomid this)
   · rw [zah (by simpa using e1)] at h1
     obtain ⟨o, ho⟩ := Option.ne_none_iff_exists'.1 h1
     rw [zdh e2, zav (hm.o1pl n o ho)] at h3
     have := tgP n o ho
     rw [h3] at this
     exact absurd e2 (nomid this)
   · rw [zah (by simpa using e1)] at h1
     rw [zah (by simpa using e2)] at h2
     obtain ⟨o, ho⟩ := Option.ne_none_iff_exists'.1 h1
     obtain ⟨o', ho'⟩ := Option.ne_none_iff_exists'.1 h2
     rw [zav (hm.o1pl n o ho), zav (hm.o1pl n' o' ho')] at h3
     exact tin n n' h1 h2 h3
 · by_cases hn : zax n = true
   · have ho2 := ho
     rw [gxm (za2 T.O1) hn] at ho
     cases ho1 : za2 T.O1 (zgy n) with
     | none => rw [ho1] at ho; cases ho
     | some o1 =>
       rw [ho1] at ho
       have ht1 : zar o1 = true := by
         cases e : zar o1 with
         | true => rfl
         | false => rw [zcc (o := some o1) (fun x hx => by cases hx; exact e)] at ho; cases ho
       obtain ⟨o0, q1, q2⟩ := hm.t1o _ o1 ho1 ht1
       have hF := hm.tid _ o0 q1 q2
       have htg : tgt F fr (zgy n) = zgy n := by unfold tgt; rw [hF]
       have := hos1 _ o1 ho1
       rw [htg] at this
       rw [zdh hn, gxm _ hn, this]
       cases o1 with
       | tab ty sz m len get =>
         simp only [zlz]
         rw [ho]
         simp only [zet] at ho
         split at ho
         · cases ho; rfl
         · cases ho
       | _ => cases ht1
   · rw [zah (by simpa using hn)] at ho
     rw [zav (hm.o1pl n o ho), zah (zb6.2 (tgP n o ho))]
     exact hos1 n o ho
 · obtain ⟨n, k1, k2, k3⟩ := h2
   by_cases hn : zax n = true
   · exfalso
     rw [gxm (za2 T.O1) hn] at k2
     rw [gxm (za2 T.O) hn] at k1
     cases ho0 : za2 T.O (zgy n) with
     | none => rw [ho0] at k1; exact k1 rfl
     | some o0 =>
       rw [ho0] at k1
       obtain ⟨r, hr⟩ := Option.ne_none_iff_exists'.1 k1
       obtain ⟨o1, r1, r2, r3⟩ := tg _ o0 ho0 (hm.isTab_O ho0 hr)
       rw [r1] at k2
       exact k1 (r3 _ k2)
   · rw [zah (by simpa using hn)] at k1 k2
     rw [gFp hn] at k3
     obtain ⟨o0, ho0⟩ := Option.ne_none_iff_exists'.1 k1
     obtain ⟨o', q1, _⟩ := hm.tb n o0 i ho0 k3
     have hi := pln _ _ q1
     rw [zah (zb6.2 hi)]
     refine hos2 i (fun ⟨m, m1, m2⟩ => h1 ⟨m, ?_, ?_⟩) ⟨n, k1, k2, k3⟩
     · obtain ⟨o, ho⟩ := Option.ne_none_iff_exists'.1 m1
       rw [zah (zb6.2 (hm.o1pl m o ho))]; exact m1
     · obtain ⟨o, ho⟩ := Option.ne_none_iff_exists'.1 m1
       rw [zav (hm.o1pl m o ho)]; exact m2
 · by_cases hi : zax i = true
   · rw [gxm _ hi, gxm g hi]
     by_cases ht : ∃ o, za2 T.O1 (zgy i) = some o /\ zar o = true
     · obtain ⟨o1, q1, q2⟩ := ht
       obtain ⟨o0, r1, r2⟩ := hm.t1o _ o1 q1 q2
       obtain ⟨hF, o', s1, s2⟩ := gv _ o0 r1 r2
       have htg : tgt F fr (zgy i) = zgy i := by unfold tgt; rw [hF]
       have hp := hos1 _ o1 q1
       rw [htg] at hp
       have hz : zet (some o1) (zqe i) = none := by
         cases hz : zet (some o1) (zqe i) with
         | none => rfl
         | some y =>
           refine absurd ⟨i, ?_, zdh hi⟩ h1
           rw [gxm (za2 T.O1) hi, q1, hz]; simp
       rw [hp, s1]
       cases o1 with
       | tab ty sz m len get =>
         simp only [zlz]
         rw [hz]
         obtain ⟨o1', t1, t2, t3⟩ := tg _ o0 r1 r2
         rw [q1] at t1; cases t1
         exact ((s2.mem _).1.1 (t3 _ hz)).symm
       | _ => cases q2
     · refine mem3 _ _ fun o ho => ?_
       cases e : zar o with
       | false => rfl
       | true => exact absurd ⟨o, ho, e⟩ ht
   · have hlt : i < zcn := by have := mt zcz.2 hi; omega
     rw [zah (zb6.2 hlt), zah (zb6.2 hlt)]
     refine hos3 i (fun ⟨m, m1, m2⟩ => h1 ⟨m, ?_, ?_⟩) (fun ⟨n, k1, k2, k3⟩ => h2 ⟨n, ?_, ?_, ?_⟩)
     · obtain ⟨o, ho⟩ := Option.ne_none_iff_exists'.1 m1
       rw [zah (zb6.2 (hm.o1pl m o ho))]; exact m1
     · obtain ⟨o, ho⟩ := Option.ne_none_iff_exists'.1 m1
       rw [zav (hm.o1pl m o ho)]; exact m2
     · obtain ⟨o, ho⟩ := Option.ne_none_iff_exists'.1 k1
       rw [zah (zb6.2 (hm.opl n o ho))]; exact k1
     · obtain ⟨o, ho⟩ := Option.ne_none_iff_exists'.1 k1
       rw [zah (zb6.2 (hm.opl n o ho))]; exact k2
     · obtain ⟨o, ho⟩ := Option.ne_none_iff_exists'.1 k1
       rw [gFp (nomid (hm.opl n o ho))]; exact k3
 · by_cases e1 : ∃ n, za2 T.O1 n ≠ none /\ tgt F fr n = id
   · obtain ⟨n, hn, rfl⟩ := e1
     obtain ⟨o1, ho1⟩ := Option.ne_none_iff_exists'.1 hn
     rw [hos1 n o1 ho1] at ho
     cases ho
     refine ⟨tgP n o1 ho1, fun ht => ?_⟩
     rw [zr0] at ht
     obtain ⟨o0, q1, q2⟩ := hm.t1o n o1 ho1 ht
     obtain ⟨hF, o', r1, r2⟩ := gv _ o0 q1 q2
     have htg : tgt F fr n = n := by unfold tgt; rw [hF]
     rw [htg]
     exact (h.tbs n o' r1).2 (r2.1.trans q2)
   · by_cases e2 : ∃ n, za2 T.O n ≠ none /\ za2 T.O1 n = none /\ za2 F n = some (some id)
     · rw [hos2 id e1 e2] at ho
       cases ho
       obtain ⟨n, k1, k2, k3⟩ := e2
       obtain ⟨o0, ho0⟩ := Option.ne_none_iff_exists'.1 k1
       obtain ⟨o', q1, _⟩ := hm.tb n o0 id ho0 k3
       exact ⟨pln _ _ q1, fun h => by cases h⟩
     · rw [hos3 id e1 e2] at ho
       exact h.tbs id o ho
theorem MX.asks {G' : Nat -> Option Ob} {mu : Mu} {GF : Nat -> Option (Option Nat)} {TG : Nat -> Nat} {O O1 : Nat -> Option Ob} {ren : Ob -> Ob} (hm : MX w D μ c (gx g) G' mu GF TG O O1 ren) (h : Sim base M W nt f g c a w D μ) :
   (∀ n, mu n = none ↔ O n = none) /\ (∀ n o x, O n = some o -> mu n = some x -> ze6 w.heap D mu o x) /\
   (∀ n n' b z z', mu n = some (some (b, z)) -> mu n' = some (some (b, z')) -> n = n') /\ (∀ n b z, mu n = some (some (b, z)) -> b < w.heap.size /\ ¬ D b /\ ∃ id o, GF n = some (some id) /\ μ id = some (some (b, z)) /\ gx g id = some o /\ o ≠ .gone /\ c id = false) := by
 have own : ∀ n b z, mu n = some (some (b, z)) -> ∃ id o, GF n = some (some id) /\ μ id = some (some (b, z)) /\ gx g id = some o /\ o ≠ .gone /\ c id = false := by
   intro n b z hn
   rw [hm.muF] at hn
   split at hn
   · rename_i id hid
     obtain ⟨o, ho⟩ := Option.ne_none_iff_exists'.1 (hm.dom n _ hid)
     obtain ⟨x, hx, hx2⟩ := hm.obs n o ho
     rw [hid] at hx; cases hx
     obtain ⟨c1, o', ho', ho2, _⟩ := hx2
     exact ⟨id, o', hid, hn, ho', ho2, c1⟩
   · cases hn
   · cases hn
 refine ⟨fun n => ⟨fun hn => ?_, fun hn => ?_⟩, fun n o x ho hx => ?_, fun n n' b z z' h1 h2 => ?_, fun n b z h1 => ?_⟩
 · refine Classical.byContradiction fun hne => ?_
   obtain ⟨o, ho⟩ := Option.ne_none_iff_exists'.1 hne
   obtain ⟨x, hx, hx2⟩ := hm.obs n o ho
   rw [hm.muF] at hn
   rw [hx] at hn
   cases x with
   | none => cases hn
   | some id =>
     obtain ⟨_, o', ho', _⟩ := hx2
     rw [(h.domx id).1 hn] at ho'
     cases ho'
 · rw [hm.muF]
   split
   · rename_i e; exact absurd hn (hm.dom n _ e)
   · rename_i e; exact absurd hn (hm.dom n _ e)
   · rfl
 · obtain ⟨y, hy, hy2⟩ := hm.obs n o ho
   rw [hm.muF] at hx
   rw [hy] at hx
   cases y with
   | none => cases hx; exact hy2
   | some id =>
     obtain ⟨_, o', ho', _, ho3⟩ := hy2
     exact ho3 _ (h.obsx id o' x ho' hx)
 · obtain ⟨id, o, q1, q2, q3, q4, q5⟩ := own n b z h1
   obtain ⟨id', o', r1, r2, r3, r4, r5⟩ := own n' b z' h2
   have := h.injx id id' b z z' o o' q2 r2 q3 r3 q4 r4
   subst this
   exact hm.inj _ _ _ q1 r1
 · obtain ⟨id, o, q1, q2, q3, q4, q5⟩ := own n b z h1
   exact ⟨(h.own id b z q2).1, (h.kdx id b z o q2 q3 q4).2 q5, id, o, q1, q2, q3, q4, q5⟩
open Classical in
noncomputable def muM (μ μ1 : Mu) (TG : Nat -> Nat) (O1 : Nat -> Option Ob) : Mu := fun i =>
 if e : ∃ n, O1 n ≠ none /\ TG n = i then μ1 (Classical.choose e) else μ i
theorem ylo {TG : Nat -> Nat} {O1 : Nat -> Option Ob} (tin : ∀ n n', O1 n ≠ none -> O1 n' ≠ none -> TG n = TG n' -> n = n') (μ1 : Mu) {n : Nat} (hn : O1 n ≠ none) : muM μ μ1 TG O1 (TG n) = μ1 n := by
 unfold muM
 have e : ∃ m, O1 m ≠ none /\ TG m = TG n := ⟨n, hn, rfl⟩
 rw [dif_pos e]
 have := Classical.choose_spec e
 rw [tin _ _ this.1 hn this.2]
theorem yc5 {μ1 : Mu} {TG : Nat -> Nat} {O1 : Nat -> Option Ob} {i : Nat} (hn : ¬ ∃ n, O1 n ≠ none /\ TG n = i) : muM μ μ1 TG O1 i = μ i := by
 unfold muM; rw [dif_neg hn]
theorem Sim.mcall (h : Sim base M W nt f g c a w D μ) (hm : zzr g c raw F fr T) {e : Ending} {v : Value} {w' : World} {D' : Nat -> Prop} {μ1 : Mu} (he : ysb D w (zgf μ F) T.O T.O1 T.r e v w' D' μ1) :
   ∃ μ', Sim base M W nt f (zbe g (mOs F fr T)) c a w' D' μ' /\ R w'.heap D' μ' (ypr F fr T.r) v := by
 obtain ⟨hX, hpl⟩ := hm.toX h
 obtain ⟨a1, a2, a3, a4⟩ := hX.asks h
 have tin := hX.tin
 obtain ⟨μ', hμ'⟩ : ∃ μ', μ' = muM μ μ1 (tgX F fr) (gx (za2 T.O1)) := ⟨_, rfl⟩
 have m1 : ∀ n, gx (za2 T.O1) n ≠ none -> μ' (tgX F fr n) = μ1 n := fun n hn => by rw [hμ']; exact ylo tin μ1 hn
 have m2 : ∀ i, (¬ ∃ n, gx (za2 T.O1) n ≠ none /\ tgX F fr n = i) -> μ' i = μ i := fun i hn => by rw [hμ']; exact yc5 hn
 have m3 : ∀ n y, μ1 n = some y -> μ' (tgX F fr n) = some y := fun n y hy => by
   rw [m1 n (fun e => by rw [(he.dom n).2 e] at hy; cases hy), hy]
 have ext : ∀ id x, μ id = some x -> μ' id = some x := by
   intro id x hx
   by_cases e : ∃ n, gx (za2 T.O1) n ≠ none /\ tgX F fr n = id
   · obtain ⟨n, hn, rfl⟩ := e
     rw [m1 n hn]
     by_cases e2 : ∃ id, gF F (za2 T.O) n = some (some id)
     · obtain ⟨id, hid⟩ := e2
       have ht : tgX F fr n = id := hX.tgF n id hid
       rw [ht] at hx
       rw [he.keep n (hX.dom n _ hid) hn]
       rw [hX.muF n, hid]; exact hx
     · have hno : ∀ id, gF F (za2 T.O) n ≠ some (some id) := fun id e => e2 ⟨id, e⟩
       obtain ⟨o, ho⟩ := Option.ne_none_iff_exists'.1 hn
       rw [(h.domx _).2 (hX.fresh n o ho hno).1] at hx
       cases hx
   · rw [m2 id e]; exact hx
 have alive : ∀ i o, gx (zbe g (mOs F fr T)) i = some o -> o ≠ .gone -> (∃ n o1, gx (za2 T.O1) n = some o1 /\ tgX F fr n = i /\ o = zlz F fr o1) \/ (gx g i = some o /\ μ' i = μ i /\ ∀ n, gF F (za2 T.O) n ≠ some (some i)) := by
   intro i o ho hng
   by_cases e : ∃ n, gx (za2 T.O1) n ≠ none /\ tgX F fr n = i
   · obtain ⟨n, hn, rfl⟩ := e
     obtain ⟨o1, ho1⟩ := Option.ne_none_iff_exists'.1 hn
     rw [hX.g1 n o1 ho1] at ho
     cases ho
     exact .inl ⟨n, o1, ho1, rfl, rfl⟩
   · by_cases e2 : ∃ n, gx (za2 T.O) n ≠ none /\ gx (za2 T.O1) n = none /\ gF F (za2 T.O) n = some (some i)
     · rw [hX.g2 i e e2] at ho; cases ho; exact absurd rfl hng
     · rw [hX.g3 i e e2] at ho
       refine .inr ⟨ho, m2 i e, fun n hn => ?_⟩
       by_cases e3 : gx (za2 T.O1) n = none
       · exact e2 ⟨n, hX.dom n _ hn, e3, hn⟩
       · exact e ⟨n, e3, hX.tgF n i hn⟩
 have other : ∀ i o b z, gx g i = some o -> o ≠ .gone -> μ i = some (some (b, z)) -> (∀ n, gF F (za2 T.O) n ≠ some (some i)) -> ∀ n z', zgf μ F n ≠ some (some (b, z')) := by
   intro i o b z hi hng hb hno n z' hn
   obtain ⟨_, _, id, o', q1, q2, q3, q4, q5⟩ := a4 n b z' hn
   have := h.injx i id b z z' o o' hb q2 hi q3 hng q4
   subst this
   exact hno n q1
 have hD : ∀ b, D b -> w'.heap[b]? = w.heap[b]? := fun b hb => he.old b (h.dlt b hb) fun n z hn => (a4 n b z hn).2.1 hb
 refine ⟨μ', ?_, ypq m3 he.val⟩
 exact {
   os := he.os.trans h.os
   tape := he.tape.trans h.tape
   output := he.output.trans h.output
   size := Nat.le_trans h.size he.size
   bs := Nat.le_trans h.bs he.size
   old := fun b h1 h2 => (he.old b (by have := h.bs; omega) fun n z hn => by
     obtain ⟨_, _, id, o', q1, q2, _⟩ := a4 n b z hn
     rcases (h.own id b z q2).2 with q | q
     · omega
     · exact h2 q).trans (h.old b h1 h2)
   defers := h.defers
   tmps := h.tmps
   slots := fun t v hv => (h.slots t v hv).mono hD he.up ext
   dlt := fun b hb => by
     rcases he.dn b hb with q | q | ⟨n, z, q⟩
     · exact Nat.lt_of_lt_of_le (h.dlt b q) he.size
     · exact q.2
     · exact Nat.lt_of_lt_of_le (a4 n b z q).1 he.size
   low := fun b hb hlt => by
     rcases he.dn b hb with q | q | ⟨n, z, q⟩
     · exact h.low b q hlt
     · have := h.bs; omega
     · obtain ⟨_, _, id, o', q1, q2, _⟩ := a4 n b z q
       rcases (h.own id b z q2).2 with q | q
       · omega
       · exact .inr q
   domx := fun i => by
     by_cases e : ∃ n, gx (za2 T.O1) n ≠ none /\ tgX F fr n = i
     · obtain ⟨n, hn, rfl⟩ := e
       obtain ⟨o1, ho1⟩ := Option.ne_none_iff_exists'.1 hn
       rw [m1 n hn, hX.g1 n o1 ho1, he.dom n, ho1]
       simp
     · rw [m2 i e]
       by_cases e2 : ∃ n, gx (za2 T.O) n ≠ none /\ gx (za2 T.O1) n = none /\ gF F (za2 T.O) n = some (some i)
       · rw [hX.g2 i e e2]
         obtain ⟨n, h1, h2, h3⟩ := e2
         obtain ⟨o, ho⟩ := Option.ne_none_iff_exists'.1 h1
         obtain ⟨x, hx, hx2⟩ := hX.obs n o ho
         rw [h3] at hx; cases hx
         obtain ⟨_, o', ho', _⟩ := hx2
         rw [h.domx i, ho']; simp
       · rw [hX.g3 i e e2]; exact h.domx i
   obsx := fun i o x ho hx => by
     by_cases hg : o = .gone
     · subst hg; cases x <;> exact trivial
     rcases alive i o ho hg with ⟨n, o1, q1, rfl, rfl⟩ | ⟨q1, q2, q3⟩
     · rw [m1 n (by rw [q1]; simp)] at hx
       exact yfn m3 (he.obs n o1 x q1 hx)
     · rw [q2] at hx
       exact (h.obsx i o x q1 hx).mono hD he.up ext (fun b z hx2 _ => he.old b (h.own i b z (by rw [hx, hx2])).1 (other i o b z q1 hg (by rw [hx, hx2]) q3))
   injx := fun i i' b z z' o o' h1 h2 h3 h4 h5 h6 => by
     rcases alive i o h3 h5 with ⟨n, o1, q1, rfl, rfl⟩ | ⟨q1, q2, q3⟩ <;> rcases alive i' o' h4 h6 with ⟨n', o1', q1', rfl, rfl⟩ | ⟨q1', q2', q3'⟩
     · rw [m1 n (by rw [q1]; simp)] at h1
       rw [m1 n' (by rw [q1']; simp)] at h2
       rw [he.inj n n' b z z' h1 h2]
     · rw [m1 n (by rw [q1]; simp)] at h1
       rw [q2'] at h2
       rcases (he.own n b z h1).2.2 with q | ⟨m, z2, q⟩
       · have := (h.own i' b z' h2).1; omega
       · exact absurd q (other i' o' b z' q1' h6 h2 q3' m z2)
     · rw [m1 n' (by rw [q1']; simp)] at h2
       rw [q2] at h1
       rcases (he.own n' b z' h2).2.2 with q | ⟨m, z2, q⟩
       · have := (h.own i b z h1).1; omega
       · exact absurd q (other i o b z q1 h5 h1 q3 m z2)
     · rw [q2] at h1; rw [q2'] at h2
       exact h.injx i i' b z z' o o' h1 h2 q1 q1' h5 h6
   own := fun i b z h1 => by
     by_cases e : ∃ n, gx (za2 T.O1) n ≠ none /\ tgX F fr n = i
     · obtain ⟨n, hn, rfl⟩ := e
       rw [m1 n hn] at h1
       obtain ⟨k1, k2, k3⟩ := he.own n b z h1
       refine ⟨k1, ?_⟩
       rcases k3 with q | ⟨m, z2, q⟩
       · have := h.bs; exact .inl (by omega)
       · obtain ⟨_, _, id, o', q1, q2, _⟩ := a4 m b z2 q
         exact (h.own id b z2 q2).2
     · rw [m2 i e] at h1
       exact ⟨Nat.lt_of_lt_of_le (h.own i b z h1).1 he.size, (h.own i b z h1).2⟩
   kdx := fun i b z o h1 h2 h3 => by
     rcases alive i o h2 h3 with ⟨n, o1, q1, rfl, rfl⟩ | ⟨q1, q2, q3⟩
     · rw [m1 n (by rw [q1]; simp)] at h1
       have k := (he.own n b z h1).2.1
       have hc : c (tgX F fr n) = false := by
         by_cases e2 : ∃ id, gF F (za2 T.O) n = some (some id)
         · obtain ⟨id, hid⟩ := e2
           have ht : tgX F fr n = id := hX.tgF n id hid
           obtain ⟨o, ho⟩ := Option.ne_none_iff_exists'.1 (hX.dom n _ hid)
           obtain ⟨x, hx, hx2⟩ := hX.obs n o ho
           rw [hid] at hx; cases hx
           rw [ht]; exact hx2.1
         · have hno : ∀ id, gF F (za2 T.O) n ≠ some (some id) := fun id e => e2 ⟨id, e⟩
           cases hc : c (tgX F fr n) with
           | false => rfl
           | true => exact absurd (hX.fresh n o1 q1 hno).1 (h.icyx _ hc)
       exact ⟨fun hx => (by rw [hc] at hx; cases hx), fun _ => k⟩
     · rw [q2] at h1
       obtain ⟨k1, k2⟩ := h.kdx i b z o h1 q1 h3
       refine ⟨fun hc => he.up b (k1 hc), fun hc hd => ?_⟩
       rcases he.dn b hd with q | q | ⟨n, z2, q⟩
       · exact k2 hc q
       · have := (h.own i b z h1).1; omega
       · exact other i o b z q1 h3 h1 q3 n z2 q
   ntb := h.ntb
   gl := h.gl
   tbs := hpl
   icm := h.icm
   mems := fun id y h1 h2 => ext _ _ (h.mems id y h1 h2)
   pin := fun i y hp hy => by
     by_cases e : ∃ n, gx (za2 T.O1) n ≠ none /\ tgX F fr n = i
     · obtain ⟨n, hn, rfl⟩ := e
       by_cases e2 : ∃ id, gF F (za2 T.O) n = some (some id)
       · obtain ⟨id, hid⟩ := e2
         have ht : tgX F fr n = id := hX.tgF n id hid
         rw [m1 n hn, he.keep n (hX.dom n _ hid) hn] at hy
         rw [hX.muF n, hid] at hy
         rw [ht] at hp |-
         exact h.pin id y hp hy
       · have hno : ∀ id, gF F (za2 T.O) n ≠ some (some id) := fun id e => e2 ⟨id, e⟩
         obtain ⟨o1, ho1⟩ := Option.ne_none_iff_exists'.1 hn
         rw [(hX.fresh n o1 ho1 hno).2] at hp; cases hp
     · rw [m2 i e] at hy; exact h.pin i y hp hy
   icyx := fun i hi => by
     have := h.icyx i hi
     by_cases e : ∃ n, gx (za2 T.O1) n ≠ none /\ tgX F fr n = i
     · obtain ⟨n, hn, rfl⟩ := e
       obtain ⟨o1, ho1⟩ := Option.ne_none_iff_exists'.1 hn
       rw [hX.g1 n o1 ho1]; simp
     · by_cases e2 : ∃ n, gx (za2 T.O) n ≠ none /\ gx (za2 T.O1) n = none /\ gF F (za2 T.O) n = some (some i)
       · rw [hX.g2 i e e2]; simp
       · rw [hX.g3 i e e2]; exact this }
end
theorem zfo {α : Type} : ∀ (xs : List α) (i t : Nat), za2 (zxw i xs) t = if i <= t then xs[t - i]? else none
 | [], i, t => by simp [zxw, za2]
 | x :: xs, i, t => by
   unfold zxw za2
   cases e : za8 i t with
   | true => have := za1 e; subst this; simp
   | false =>
     have hne : i ≠ t := by rintro rfl; rw [za3] at e; cases e
     simp only
     rw [zfo xs (i + 1) t]
     by_cases h : i <= t
     · rw [if_pos (by omega), if_pos h]
       obtain ⟨k, hk⟩ : ∃ k, t - i = k + 1 := ⟨t - i - 1, by omega⟩
       rw [hk, show t - (i + 1) = k by omega]
       simp
     · rw [if_neg (by omega), if_neg h]
theorem zdl {objs : List (Nat × Ob)} {F : List (Nat × Option Nat)} {fr : Nat} : ∀ {O1 : List (Nat × Ob)}, zke objs F fr O1 = true -> ∀ n o, za2 O1 n = some o -> (∀ id, za2 F n ≠ some (some id)) -> za2 objs (fr + n) = none /\ zcy (fr + n) = false /\ zax (fr + n) = false /\ zar o = false
 | [], _, n, o, h, _ => by cases h
 | (m, o') :: r, e, n, o, h, hno => by
   unfold zke at e
   unfold za2 at h
   split at e
   · rename_i id hid
     split at h
     · rename_i hb
       rw [za1 hb] at hid
       exact absurd hid (hno id)
     · exact zdl e n o h hno
   · split at e
     · rename_i hf hp hm ht
       split at h
       · rename_i hb; rw [za1 hb] at hf hp hm; cases h; exact ⟨hf, hp, hm, ht⟩
       · exact zdl e n o h hno
     · cases e
theorem zgc : ∀ {O : List (Nat × Ob)}, yow O = true -> ∀ n o, za2 O n = some o -> n < zcn
 | [], _, n, o, h => by cases h
 | (m, o') :: r, e, n, o, h => by
   unfold yow at e
   unfold za2 at h
   split at e
   · rename_i hb
     split at h
     · rename_i he; rw [<- za1 he]; exact zas hb
     · exact zgc e n o h
   · cases e
theorem zro {O1 : List (Nat × Ob)} {t ty' sz' n' : Nat} {len' : Nat -> Nat} {get' : Nat -> Nat -> Nat -> AV} (h1 : za2 O1 t = some (.tab ty' sz' n' len' get')) : ∀ {O : List (Nat × Ob)} {ty sz n : Nat} {len : Nat -> Nat} {get : Nat -> Nat -> Nat -> AV}, za2 O t = some (.tab ty sz n len get) -> (n <= n') ∈ zrp O1 O
 | [], _, _, _, _, _, h => by cases h
 | (m, o') :: r, ty, sz, n, len, get, h => by
   unfold za2 at h
   split at h
   · rename_i he
     have := za1 he; subst this
     cases h
     unfold zrp
     rw [h1]
     exact List.mem_cons_self ..
   · have ih := zro h1 (O := r) h
     unfold zrp
     split
     · rename_i q; cases q
     · rename_i q; cases q
       split
       · exact List.mem_cons_of_mem _ ih
       · exact ih
     · rename_i q; cases q; exact ih
theorem zft {O1 : List (Nat × Ob)} : ∀ {O : List (Nat × Ob)}, tabsOk.tabsOk1 O O1 = true -> ∀ {t ty sz n : Nat} {len : Nat -> Nat} {get : Nat -> Nat -> Nat -> AV}, za2 O t = some (.tab ty sz n len get) -> ∃ n' len' get', za2 O1 t = some (.tab ty sz n' len' get')
 | [], _, _, _, _, _, _, _, h => by cases h
 | (m, o') :: r, e, t, ty, sz, n, len, get, h => by
   unfold tabsOk.tabsOk1 at e
   unfold za2 at h
   split at e
   · rename_i q; cases q
   · rename_i q; cases q
     split at e
     · rename_i hO
       split at e
       · rename_i h1 h2
         split at h
         · rename_i he
           have := za1 he; subst this
           cases h
           rw [<- za1 h1, <- za1 h2] at hO
           exact ⟨_, _, _, hO⟩
         · exact zft e h
       · cases e
     · cases e
   · rename_i hno q; cases q
     split at e
     · cases e
     · split at h
       · cases h
         exact (hno _ _ _ _ _ rfl).elim
       · exact zft e h
theorem zi6 {F : List (Nat × Option Nat)} : ∀ {O : List (Nat × Ob)}, tabsOk.tabsOk2 F O = true -> ∀ {t : Nat} {o : Ob}, za2 O t = some o -> zar o = true -> za2 F t = some (some t)
 | [], _, _, _, h, _ => by cases h
 | (m, o') :: r, e, t, o, h, ht => by
   unfold tabsOk.tabsOk2 at e
   unfold za2 at h
   split at e
   · rename_i q; cases q
   · rename_i q; cases q
     split at e
     · rename_i x hx
       split at e
       · rename_i hi
         split at h
         · rename_i he
           have := za1 he; subst this
           rw [hx, ztv hi]
         · exact zi6 e h ht
       · cases e
     · cases e
   · rename_i hno q; cases q
     split at h
     · cases h
       cases o' <;> first | exact (hno _ _ _ _ _ _ rfl).elim | cases ht
     · exact zi6 e h ht
theorem zcm : ∀ {O1 : List (Nat × Ob)}, zvj O1 = true -> ∀ n, za2 O1 n ≠ some .gone
 | [], _, n => by simp [za2]
 | (m, o) :: r, e, n => by
   unfold za2
   unfold zvj at e
   cases o with
   | gone => cases e
   | box _ _ =>
     split
     · simp
     · exact zcm e n
   | row _ _ _ _ =>
     split
     · simp
     · exact zcm e n
   | spr _ _ =>
     split
     · simp
     · exact zcm e n
   | map _ _ _ _ =>
     split
     · simp
     · exact zcm e n
   | mapl _ _ =>
     split
     · simp
     · exact zcm e n
   | mapq _ =>
     split
     · simp
     · exact zcm e n
   | rowp _ _ _ _ _ =>
     split
     · simp
     · exact zcm e n
   | tab _ _ _ _ _ =>
     split
     · simp
     · exact zcm e n
theorem ygf {s : St} {raw : List AV} {T : yoa} {m : zcq} {fr : Nat} (e : ylq s raw T = some m) (hf : zke s.objs m.ids fr T.O1 = true) (hp : ∀ p, p ∈ m.ps -> p) : zzr (za2 s.objs) (zbo s.ice) raw m.ids fr T := by
 unfold ylq at e
 split at e
 · rename_i hlen
   have hlen := za1 hlen
   rw [zai, zai] at hlen
   split at e
   · rename_i m1 e1
     split at e
     · rename_i m2 e2
       split at e
       · rename_i h3 h4 h5 h6
         cases e
         rw [Bool.and_eq_true] at h6
         unfold tabsOk at h5
         rw [Bool.and_eq_true, Bool.and_eq_true] at h5
         rw [zae] at hp
         have x1 := fun h D μ a => zey (h := h) (D := D) (μ := μ) (a := a) e1
         have x2 := fun h D μ => zed (h := h) (D := D) (μ := μ) e2
         have F0 : Fin m2 m2.ids := ⟨fun _ _ h => h, fun p hh => hp p (List.mem_append_right _ hh)⟩
         have X1 := (x1 #[] (fun _ => False) zam ⟨#[], []⟩).1
         have X2 := (x2 #[] (fun _ => False) zam).1
         have k0 := fun n o ho => (x2 #[] (fun _ => False) zam).2 m2.ids F0 n o ho
         refine { len := hlen, xs := fun h D μ vs hr => ?_, inj := X2.inj (X1.inj (fun t t' id h1 h2 => by have q1 := zit h1; have q2 := zit h2; cases q1; cases q2; rfl)), dom := fun n x hx => zmf h3 n x hx, obs := fun n o ho => ?_, fresh := fun n o h1 h2 => (zdl hf n o h1 h2).1, unpin := fun n o h1 h2 => (zdl hf n o h1 h2).2.1, ng := zcm h4, opl := zgc h6.1, o1pl := zgc h6.2, tpl := fun n o h1 h2 => ⟨zb6.1 (zdl hf n o h1 h2).2.2.1, (zdl hf n o h1 h2).2.2.2⟩, tb := fun n o id ho hF => (k0 n o ho).tb id hF, nt := fun n o ho hF => (k0 n o ho).nt hF, tid := fun t o ho ht => zi6 h5.2.2 ho ht, tgo := fun t ty sz n len get ho => ?_, t1o := fun t o ho ht => ?_ }
         · refine ⟨by rw [<- hlen]; exact hr.1, fun i x v hx hv => ?_⟩
           have := (x1 h D μ ⟨vs, []⟩).2 m2.ids (F0.of X2) (fun t u hu => by
             rw [zfo, if_pos (by omega), Nat.sub_zero] at hu
             have hlt : t < vs.size := by rw [<- hr.1]; exact (List.getElem?_eq_some_iff.1 hu).1
             have h1 : vs[t]? = some vs[t] := by simp [hlt]
             have h2 : vs.getD t undef = vs[t] := by rw [Array.getD_eq_getD_getElem?, h1]; rfl
             rw [h2]
             exact hr.2 t u _ hu h1) i x (by rw [zfo, if_pos (by omega), Nat.sub_zero]; exact hx)
           have h2 : vs.getD i undef = v := by rw [Array.getD_eq_getD_getElem?, hv]; rfl
           rw [h2] at this
           exact this
         · obtain ⟨x, hx, _⟩ := (k0 n o ho).pair
           refine ⟨x, hx, ?_⟩
           cases x with
           | none =>
             intro h D μ
             obtain ⟨y, hy, hy2⟩ := ((x2 h D μ).2 m2.ids F0 n o ho).pair
             rw [hx] at hy; cases hy; exact hy2
           | some id =>
             have hh := fun h D μ => ((x2 h D μ).2 m2.ids F0 n o ho).pair
             obtain ⟨y, hy, hy2⟩ := hh #[] (fun _ => False) zam
             rw [hx] at hy; cases hy
             obtain ⟨q1, o', q2, q3, _⟩ := hy2
             refine ⟨?_, o', q2, q3, fun h D μ z hz => ?_⟩
             · cases hc : zbo s.ice id with
               | false => rfl
               | true => exact absurd (q1 hc) (by simp [zbo])
             · obtain ⟨y, hy, hy2⟩ := hh h D μ
               rw [hx] at hy; cases hy
               obtain ⟨_, o2, r2, _, r4⟩ := hy2
               rw [q2] at r2; cases r2
               exact r4 z hz
         · obtain ⟨n', len', get', q⟩ := zft h5.1 ho
           exact ⟨n', len', get', q, hp _ (List.mem_append_left _ (zro q ho))⟩
         · cases o with
           | tab ty sz n len get =>
             obtain ⟨n', len', get', q⟩ := zft h5.2.1 ho
             exact ⟨_, q, rfl⟩
           | _ => cases ht
       · cases e
     · cases e
   · cases e
 · cases e
def yk9 (P : Program) (f : Nat -> Option AV) (g : Nat -> Option Ob) (c : Nat -> Bool) (o : Oper) (v : AV) (os : List (Nat × Ob)) : Prop :=
 ∃ fo xs ts k first caps zs F fr T, o.op = .call { callee := .value fo, args := xs, argTypes := ts } /\ zcw (evf f []) (zbv o.op) = .fn k first caps :: zs /\ zce P k T.xs T.O T.r T.O1 /\
   zzr g c (zbs first (zbs zs caps)) F fr T /\ v = ypr F fr T.r /\ os = mOs F fr T
theorem zps : ∀ {os : List (Nat × Ob)} {id : Nat}, za2 os id ≠ none -> id ∈ zyb os
 | [], id, h => by simp [za2] at h
 | (i, o) :: r, id, h => by
   unfold za2 at h
   unfold zyb
   split at h
   · rename_i e; rw [za1 e]; simp
   · exact List.mem_cons_of_mem _ (zps h)
theorem zzr.congr {g g' : Nat -> Option Ob} {c c' : Nat -> Bool} {raw : List AV} {F : List (Nat × Option Nat)} {fr : Nat} {T : yoa} (hm : zzr g c raw F fr T) (hg : ∀ id, id ∈ zyb (mOs F fr T) -> g' id = g id) (hc : ∀ id, id ∈ zyb (mOs F fr T) -> c' id = c id) : zzr g' c' raw F fr T := by
 have tin := hm.tgt_inj
 have k1 : ∀ n, za2 T.O1 n ≠ none -> tgt F fr n ∈ zyb (mOs F fr T) := by
   intro n hn
   obtain ⟨o1, ho1⟩ := Option.ne_none_iff_exists'.1 hn
   refine zps ?_
   unfold mOs
   rw [zfp, zpl tin ho1]; simp
 have k2 : ∀ n id, za2 F n = some (some id) -> id ∈ zyb (mOs F fr T) := by
   intro n id hid
   by_cases e : za2 T.O1 n = none
   · refine zps ?_
     unfold mOs
     rw [zfp]
     cases za2 (zni F fr T.O1) id with
     | some _ => simp
     | none => simp only; rw [zmk (hm.dom n _ hid) e hid]; simp
   · have := k1 n e
     unfold tgt at this
     rwa [hid] at this
 refine { len := hm.len, xs := hm.xs, inj := hm.inj, dom := hm.dom, obs := fun n o ho => ?_, fresh := fun n o ho hno => ?_, unpin := hm.unpin, ng := hm.ng, opl := hm.opl, o1pl := hm.o1pl, tpl := hm.tpl, tb := fun n o id ho hF => by rw [hg id (k2 n id hF)]; exact hm.tb n o id ho hF, nt := hm.nt, tid := hm.tid, tgo := hm.tgo, t1o := hm.t1o }
 · obtain ⟨x, hx, hx2⟩ := hm.obs n o ho
   refine ⟨x, hx, ?_⟩
   cases x with
   | none => exact hx2
   | some id =>
     have := k2 n id hx
     show c' id = false /\ ∃ o', g' id = some o' /\ _
     rw [hg id this, hc id this]
     exact hx2
 · have : tgt F fr n = fr + n := by
     unfold tgt
     split
     · rename_i id e; exact absurd e (hno id)
     · rfl
   have k := k1 n (by rw [ho]; simp)
   rw [this] at k
   rw [hg _ k]
   exact hm.fresh n o ho hno
section
variable {P : Program} {base : Nat} {M : Two} {W : World} {nt : Nat} {f : Nat -> Option AV} {g : Nat -> Option Ob} {c : Nat -> Bool} {a : Act} {w : World} {D : Nat -> Prop} {μ : Mu} {o : Oper}
theorem yvf (h : Sim base M W nt f g c a w D μ) (hd : ∀ d, o.dst = some d -> d < nt) (hpl : ∀ x ∈ zbv o.op, ∀ v, x = .const v -> zix v = true) {v : AV} {os : List (Nat × Ob)} (hh : yk9 P f g c o v os) : Adv P base M W nt f g c o a w v os [] := by
 obtain ⟨fo, xs, ts, k, first, caps, zs, F, fr, T, e, hvals, hM, hm, rfl, rfl⟩ := hh
 have hv : ∀ l : List Operand, (∀ x ∈ l, ∀ v, x = .const v -> zix v = true) -> Ops w.heap D μ a l (zcw (evf f []) l) := by
   intro l
   induction l with
   | nil => intro _; trivial
   | cons x l ih => intro hp; exact ⟨ymw h (fun t b ht => by simp [za2] at ht) x (fun v hv => hp x (by simp) v hv), ih (fun y hy => hp y (by simp [hy]))⟩
 have hv := hv _ hpl
 rw [hvals] at hv
 rw [e] at hv
 simp only [zbv] at hv
 obtain ⟨hf, hv⟩ := hv
 intro K Q hK
 obtain ⟨o1, o2⟩ := zpd hv
 obtain ⟨vs, us, hfv, e1, e2, r1, r2⟩ : ∃ vs us, a.eval fo = .func (.func k) vs us /\ first.length = vs.size /\ caps.length = us.size /\ (∀ (i : Nat) x v, first[i]? = some x -> vs[i]? = some v -> R w.heap D μ x v) /\ (∀ (i : Nat) x v, caps[i]? = some x -> us[i]? = some v -> R w.heap D μ x v) := by
   generalize a.eval fo = u at hf
   cases hf with
   | fn _ _ _ vs us e1 e2 h1 h2 => exact ⟨vs, us, rfl, e1, e2, h1, h2⟩
 have hl : zs.length = xs.size := by rw [o1]; simp
 have hsz : (zbs first (zbs zs caps)).length = ((vs ++ xs.map a.eval) ++ us).size := by rw [zae, zae]; simp [e1, e2, hl]
 have hraw : ∀ (i : Nat) y v, (zbs first (zbs zs caps))[i]? = some y -> ((vs ++ xs.map a.eval) ++ us)[i]? = some v -> R w.heap D μ y v := by
   intro i x v hx hv'
   rw [zae, zae] at hx
   rw [Array.append_assoc] at hv'
   by_cases i1 : i < first.length
   · rw [List.getElem?_append_left i1] at hx
     rw [Array.getElem?_append_left (by omega)] at hv'
     exact r1 i x v hx hv'
   · rw [List.getElem?_append_right (by omega)] at hx
     rw [Array.getElem?_append_right (by omega)] at hv'
     rw [e1] at hx
     by_cases i2 : i - vs.size < zs.length
     · rw [List.getElem?_append_left i2] at hx
       rw [Array.getElem?_append_left (by simp; omega)] at hv'
       have i3 : i - vs.size < xs.size := by omega
       simp [i3] at hv'
       subst hv'
       exact o2 _ x _ hx (by simp [i3])
     · rw [List.getElem?_append_right (by omega)] at hx
       rw [Array.getElem?_append_right (by simp; omega)] at hv'
       simp only [Array.size_map, <- hl] at hv'
       exact r2 _ x v hx hv'
 have hRL : RL w.heap D (zgf μ F) T.xs ((vs ++ xs.map a.eval) ++ us) := hm.xs _ _ _ _ ⟨hsz, hraw⟩
 obtain ⟨a1, a2, a3, a4⟩ := (hm.toX h).1.asks h
 have hcall := hM D w _ _ h.dlt hRL a1 a2 a3 (fun n b z hn => ⟨(a4 n b z hn).1, (a4 n b z hn).2.1⟩) h.gok (fun n b z hn => by
   obtain ⟨_, _, id, _, _, hid, _⟩ := a4 n b z hn
   exact h.gown hid)
 have fin : ∀ e v w' D' μ1, ysb D w (zgf μ F) T.O T.O1 T.r e v w' D' μ1 -> K (a.put o.dst v) w' := by
   intro e v w' D' μ1 he
   obtain ⟨μ', h', hr⟩ := h.mcall hm he
   exact hK _ _ ⟨_, _, h'.put hd hr⟩
 unfold Oper.wp
 have hrun : (execOp a.eval o).run P w = (callFunc k ((vs ++ xs.map a.eval) ++ us)).run P w := by
   unfold execOp
   rw [e]
   simp [resolve, hfv, Deferred.ofValue, invoke]
 rw [hrun]
 unfold zeq at hcall
 split at hcall
 · rename_i f' args' w' hcf
   rw [hcf, Oper.upon_enter]
   refine hcall.mono fun en w'' hen => ?_
   obtain ⟨v, D', μ1, he⟩ := hen
   obtain rfl := he.ret
   exact fin _ v w'' D' μ1 he
 · rename_i v w' hcf
   rw [hcf, Oper.upon_value]
   obtain ⟨v', D', μ1, he⟩ := hcall
   have := he.ret
   cases this
   exact fin _ _ w' D' μ1 he
 · exact hcall.elim
end
end Sy
end Go.Proofs.YtfonekpmkdkgnaaGreatDoor
namespace Go.Proofs.YtfonekpmkdkgnaaGreatDoor
namespace Sy
open Go Go.RowKit
set_option linter.unusedSimpArgs false
set_option linter.unusedVariables false
set_option linter.unusedSectionVars false
def zim {β : Type} (L : Nat -> Bool) (hit : Nat -> Option β) (s : Option β) : Nat -> Option β
 | 0 => s
 | n + 1 => if L n = true then (match hit n with | some x => some x | none => zim L hit s n) else zim L hit s n
theorem zmb {β : Type} (L : Nat -> Bool) (hit : Nat -> Option β) (s : Option β) (n : Nat) : zim L hit s (n + 1) = if L n = true then (match hit n with | some x => some x | none => zim L hit s n) else zim L hit s n := rfl
theorem zd4 {β : Type} {L L' : Nat -> Bool} {hit : Nat -> Option β} {s : Option β} : ∀ n, (∀ j, j < n -> hit j ≠ none -> L j = L' j) -> zim L hit s n = zim L' hit s n
 | 0, _ => rfl
 | n + 1, h => by
   unfold zim
   have ih := zd4 n (fun j hj => h j (by omega)) (s := s)
   cases e : hit n with
   | none => simp [ih]
   | some x =>
     rw [h n (by omega) (by rw [e]; simp), ih]
theorem zj4 {β : Type} {L : Nat -> Bool} {hit : Nat -> Option β} {s : Option β} (i : Nat) : ∀ n, (∀ j, i <= j -> j < n -> L j = true -> hit j = none) -> i <= n -> zim L hit s n = zim L hit s i
 | 0, _, hi => by have : i = 0 := by omega
                  rw [this]
 | n + 1, h, hi => by
   by_cases e : i = n + 1
   · rw [e]
   · have ih := zj4 i n (fun j h1 h2 => h j h1 (by omega)) (by omega) (s := s)
     rw [zmb]
     by_cases hL : L n = true
     · rw [if_pos hL, h n (by omega) (by omega) hL]; exact ih
     · rw [if_neg hL]; exact ih
theorem zmc {β : Type} {hit : Nat -> Option β} {s : Option β} (i : Nat) : ∀ n, i <= n -> zim (fun j => decide (j < i)) hit s n = zim (fun _ => true) hit s i := fun n hn => by
 rw [zj4 i n (fun j h1 _ h3 => by simp at h3; omega) hn]
 exact zd4 i (fun j hj _ => by simp [hj])
theorem zpr {β : Type} {L L' : Nat -> Bool} {hit : Nat -> Option β} {s : Option β} {i : Nat} (hi : L' i = true) (hL : L i = false) (hne : ∀ j, j ≠ i -> L' j = L j) : ∀ n, i < n ->
   (hit i ≠ none -> ∀ j, i < j -> j < n -> L j = true -> hit j = none) -> zim L' hit s n = (match hit i with | some x => some x | none => zim L hit s n)
 | 0, h, _ => by omega
 | n + 1, h, hc => by
   by_cases e : n = i
   · subst e
     have : zim L' hit s n = zim L hit s n := zd4 n (fun j hj _ => hne j (by omega))
     unfold zim
     rw [if_pos hi, hL, this]
     simp
   · have ih := zpr hi hL hne n (by omega) (fun h1 j h2 h3 => hc h1 j h2 (by omega)) (s := s)
     unfold zim
     rw [hne n e, ih]
     cases hh : hit i with
     | none => rfl
     | some x =>
       simp only
       by_cases hLn : L n = true
       · rw [if_pos hLn, hc (by rw [hh]; simp) n (by omega) (by omega) hLn]
       · rw [if_neg hLn]
def znq (L : Nat -> Bool) (p : Nat -> Bool) (s : Bool) : Nat -> Bool
 | 0 => s
 | n + 1 => (L n && p n) || znq L p s n
theorem zse (L p : Nat -> Bool) (s : Bool) (n : Nat) : znq L p s (n + 1) = ((L n && p n) || znq L p s n) := rfl
theorem zfn {L L' p : Nat -> Bool} {s : Bool} : ∀ n, (∀ j, j < n -> p j = true -> L j = L' j) -> znq L p s n = znq L' p s n
 | 0, _ => rfl
 | n + 1, h => by
   unfold znq
   rw [zfn n (fun j hj => h j (by omega))]
   cases e : p n with
   | false => simp
   | true => rw [h n (by omega) e]
theorem zn2 {L p : Nat -> Bool} {s : Bool} (i : Nat) : ∀ n, (∀ j, i <= j -> j < n -> L j = false) -> i <= n -> znq L p s n = znq L p s i
 | 0, _, hi => by have : i = 0 := by omega
                  rw [this]
 | n + 1, h, hi => by
   by_cases e : i = n + 1
   · rw [e]
   · rw [zse, h n (by omega) (by omega), zn2 i n (fun j h1 h2 => h j h1 (by omega)) (by omega)]
     simp
theorem yeh {p : Nat -> Bool} {s : Bool} (i : Nat) : ∀ n, i <= n -> znq (fun j => decide (j < i)) p s n = znq (fun _ => true) p s i := fun n hn => by
 rw [zn2 i n (fun j h1 _ => by simp; omega) hn]
 exact zfn i (fun j hj _ => by simp [hj])
theorem zwm {L L' p : Nat -> Bool} {s : Bool} {i : Nat} (hi : L' i = true) (hL : L i = false) (hne : ∀ j, j ≠ i -> L' j = L j) : ∀ n, i < n -> znq L' p s n = (p i || znq L p s n)
 | 0, h => by omega
 | n + 1, h => by
   by_cases e : n = i
   · subst e
     have : znq L' p s n = znq L p s n := zfn n (fun j hj _ => hne j (by omega))
     unfold znq
     rw [hi, hL, this]; simp
   · unfold znq
     rw [hne n e, zwm hi hL hne n (by omega)]
     cases L n && p n <;> cases p i <;> simp
theorem zln {T : TT} {L : za9} {f f' : Nat -> Option AV} {g g' : Nat -> Option Ob} {c c' : Nat -> Bool} {kn kn' : List (Nat × Bool)} {o : Oper} (hv : zcw (evf f kn) (zbv o.op) = zcw (evf f' kn') (zbv o.op))
   (hg : ∀ id, id ∈ yop o.op (zcw (evf f' kn') (zbv o.op)) -> g id = g' id) (hn : zd0 o.op = true -> ∀ d, o.dst = some d -> g d = g' d)
   (hc : zor o.op = true -> ∀ id, id ∈ yhe (zcw (evf f' kn') (zbv o.op)) -> c id = c' id) : zku T L f g c kn o = zku T L f' g' c' kn' o := by
 unfold zku
 rw [hv]
 have e1 : yom g (yop o.op (zcw (evf f' kn') (zbv o.op))) = yom g' (yop o.op (zcw (evf f' kn') (zbv o.op))) := by
   funext id
   unfold yom
   split
   · rename_i h; exact hg id (zcd.1 h)
   · rfl
 have e2 : zyk c o.op (zcw (evf f' kn') (zbv o.op)) = zyk c' o.op (zcw (evf f' kn') (zbv o.op)) := by
   funext id
   unfold zyk
   split
   · rename_i h
     split
     · rename_i h2; exact hc h id (zcd.1 h2)
     · rfl
   · rfl
 have e3 : zds g o.op o.dst = zds g' o.op o.dst := by
   unfold zds
   split
   · rename_i h
     split
     · rename_i d hd; rw [hn h d hd]
     · rfl
   · rfl
 rw [e1, e2, e3]
def znu (f : Nat -> Option AV) (kn : List (Nat × Bool)) : Prop := ∀ t b, za2 kn t = some b -> f t = some (.bool b)
theorem yjy {f : Nat -> Option AV} {kn : List (Nat × Bool)} (h : znu f kn) (x : Operand) : evf f kn x = evf f [] x := by
 unfold evf
 cases x with
 | tmp t =>
   simp only [za2]
   cases e : za2 kn t with
   | none => rfl
   | some b => simp [h t b e]
 | _ => rfl
theorem zhl {α β : Type} {k k' : α -> β} : ∀ {l : List α}, (∀ x ∈ l, k x = k' x) -> zcw k l = zcw k' l
 | [], _ => rfl
 | x :: l, h => by simp [zcw, h x (by simp), zhl (l := l) (fun y hy => h y (by simp [hy]))]
inductive Holds (P : Program) : zcr -> AV -> List (Nat × Ob) -> List Nat -> Prop
 | ok (v : AV) (os : List (Nat × Ob)) (ice : List Nat) : Holds P (.ok v os ice) v os ice
 | okIf (b : Bool) (v : AV) (os : List (Nat × Ob)) (ice : List Nat) (h : b = true) : Holds P (.okIf b v os ice) v os ice
 | okP (p : Prop) (v : AV) (os : List (Nat × Ob)) (ice : List Nat) (h : p) : Holds P (.okP p v os ice) v os ice
 | call (k : FuncId) (xs : List AV) (ice : List Nat) (r : AV) (h : za5 P k xs r) : Holds P (.call k xs ice) r [] ice
 | callB (k : FuncId) (xs : List AV) (r : AV) (hs : yak r = true) (h : za5 P k xs r) : Holds P (.callB k xs) r [] []
 | alt1 (b : Bool) (v : AV) (os : List (Nat × Ob)) (q : Bool) (v' : AV) (os' : List (Nat × Ob)) (h : b = true) : Holds P (.alt b v os q v' os') v os []
 | alt2 (b : Bool) (v : AV) (os : List (Nat × Ob)) (q : Bool) (v' : AV) (os' : List (Nat × Ob)) (h : b = false) (hq : q = true) : Holds P (.alt b v os q v' os') v' os' []
theorem ys8 {P : Program} {base : Nat} {M : Two} {W : World} {nt : Nat} {f : Nat -> Option AV} {g : Nat -> Option Ob} {c : Nat -> Bool} {o : Oper} {a : Act} {w : World} {x : zcr} {v : AV} {os : List (Nat × Ob)} {ice : List Nat}
   (h : Holds P x v os ice) (s : zcg P base M W nt f g c o a w x) : Adv P base M W nt f g c o a w v os ice := by
 cases h with
 | ok => exact s
 | okIf _ _ _ _ h => exact s h
 | okP _ _ _ _ h => exact s h
 | call _ _ _ _ h => exact s _ h
 | callB _ _ _ hs h => exact s _ hs h
 | alt1 _ _ _ _ _ _ h => exact s.1 h
 | alt2 _ _ _ _ _ _ h hq => exact s.2 h hq
inductive Sat (P : Program) (Q : AV -> Prop) : zcf -> Prop
 | need {b : Bool} {k : zcf} (h : b = true) (hk : Sat P Q k) : Sat P Q (.need b k)
 | must {p : Prop} {k : zcf} (h : p) (hk : Sat P Q k) : Sat P Q (.must p k)
 | ite {b : Bool} {t e : zcf} (ht : b = true -> Sat P Q t) (he : b = false -> Sat P Q e) : Sat P Q (.ite b t e)
 | done {r : AV} (h : Q r) : Sat P Q (.done r)
 | yes : Sat P Q .yes
 | call {f : FuncId} {xs : List AV} {k : AV -> zcf} {r : AV} (h : za5 P f xs r) (hk : Sat P Q (k r)) : Sat P Q (.call f xs k)
 | ex {X : Type} {f : X -> zcf} (x : X) (h : Sat P Q (f x)) : Sat P Q (.ex X f)
 | all {X : Type} {f : X -> zcf} (h : ∀ x, Sat P Q (f x)) : Sat P Q (.all X f)
 | sup {p : Prop} {k : zcf} (h : p -> Sat P Q k) : Sat P Q (.sup p k)
 | and {a b : zcf} (h1 : Sat P Q a) (h2 : Sat P Q b) : Sat P Q (.and a b)
structure zdg (P : Program) (S : zns) : Prop where
 fz : ∀ f xs p r, S.fz f xs = some (p, r) -> p -> za5 P f xs r
 mt : ∀ f m, S.mt f = some m -> ∀ raw ob T, m raw ob = some T -> T.p -> zce P f T.xs T.O T.r T.O1
theorem ziq {P : Program} {Q : AV -> Prop} {next : zcf} : ∀ {ps : List Prop}, Sat P Q (ygb ps next) -> (∀ p, p ∈ ps -> p) /\ Sat P Q next
 | [], h => ⟨fun p hp => by simp at hp, h⟩
 | p :: r, h => by
   cases h with
   | must h hk =>
     obtain ⟨h1, h2⟩ := ziq hk
     exact ⟨fun q hq => by rcases List.mem_cons.1 hq with rfl | hq; exact h; exact h1 q hq, h2⟩
theorem yh3 {P : Program} {T : TT} {f : Nat -> Option AV} {g : Nat -> Option Ob} {c : Nat -> Bool} {kn : List (Nat × Bool)} {o : Oper} {b : Bool} (h : zre kn o.op = some b) {v : AV} {os : List (Nat × Ob)} {ice : List Nat}
   (hh : Holds P (zku T std f g c kn o) v os ice) : v = .bool b := by
 have lit : ∀ x b, litOf kn x = some b -> evf f kn x = .bool b := by
   intro x b hx
   unfold litOf at hx
   split at hx
   · cases hx; rfl
   · rename_i t
     simp [evf, hx]
   · cases hx
 unfold zre at h
 unfold zku yuw at hh
 split at h
 · rename_i x e
   rw [e] at hh
   simp only [zbv, zcw, ydx, lit x b h] at hh
   cases hh; rfl
 · rename_i x e
   rw [e] at hh
   simp only [zbv, zcw, ydx, lit x b h] at hh
   cases hh; rfl
 · rename_i x y z e
   rw [e] at hh
   simp only [zbv, zcw] at hh
   split at h
   · rename_i hc
     rw [lit x _ hc, lit y b h] at hh
     simp only [ydw] at hh
     cases hh; rfl
   · rename_i hc
     rw [lit x _ hc, lit z b h] at hh
     simp only [ydw] at hh
     cases hh; rfl
   · cases h
 · cases h
theorem zsi {kn : List (Nat × Bool)} {d t : Nat} : za2 (yly kn d) t = if t = d then none else za2 kn t := by
 induction kn with
 | nil => simp [yly, za2]
 | cons x kn ih =>
   obtain ⟨u, b⟩ := x
   unfold yly
   cases e : za8 u d with
   | true =>
     simp only [ih]
     have := za1 e; subst this
     by_cases ht : t = u
     · simp [ht]
     · have : za8 u t = false := zak fun h => ht h.symm
       simp [ht, za2, this]
   | false =>
     simp only [za2]
     cases e' : za8 u t with
     | true =>
       have := za1 e'; subst this
       have : u ≠ d := by rintro rfl; rw [za3] at e; cases e
       simp [this]
     | false => simpa using ih
theorem zlh (s : St) (dst : Option Nat) (v : AV) : za2 (s.put dst v) = znm (za2 s.slots) dst v := by
 funext t
 unfold St.put znm
 cases dst with
 | none => rfl
 | some d =>
   simp only [za2]
   by_cases e : t = d
   · subst e; simp [za3]
   · have : za8 d t = false := zak fun h => e h.symm
     simp [this, e]
theorem yij {α : Type} (os l : List (Nat × α)) (id : Nat) : za2 (zbs os l) id = match za2 os id with | some o => some o | none => za2 l id := zfp os l id
theorem zsj (os l : List (Nat × Ob)) : za2 (zbs os l) = zbe (za2 l) os := by
 funext id; rw [yij]; unfold zbe; cases za2 os id <;> rfl
theorem ygy (os l : List Nat) : ∀ id, zbo (zbs os l) id = (zbo os id || zbo l id) := by
 intro id
 induction os with
 | nil => simp [zbs, zbo]
 | cons x os ih =>
   simp only [zbs, zbo]
   cases za8 x id <;> simp [ih]
theorem zrd (os l : List Nat) : zbo (zbs os l) = zjd (zbo l) os := by
 funext id; rw [ygy]; rfl
theorem zvx {f : Nat -> Option AV} {kn : List (Nat × Bool)} (h : znu f kn) {dst : Option Nat} {v : AV} {x : Option Bool} (hx : ∀ b, x = some b -> v = .bool b) : znu (znm f dst v) (yqx kn dst x) := by
 intro t b ht
 unfold yqx at ht
 cases dst with
 | none => exact h t b ht
 | some d =>
   simp only [znm]
   cases x with
   | none =>
     simp only at ht
     rw [zsi] at ht
     split at ht
     · cases ht
     · rename_i e; rw [if_neg e]; exact h t b ht
   | some y =>
     simp only [za2] at ht
     cases e : za8 d t with
     | true =>
       rw [e] at ht
       have := za1 e; subst this
       cases ht
       rw [if_pos rfl, hx _ rfl]
     | false =>
       rw [e] at ht
       simp only at ht
       rw [zsi] at ht
       split at ht
       · cases ht
       · rename_i e; rw [if_neg e]; exact h t b ht
theorem zem {f : Nat -> Option AV} {kn : List (Nat × Bool)} (h : znu f kn) {t : Nat} {b : Bool} (hx : f t = some (.bool b)) : znu f ((t, b) :: kn) := by
 intro u y hu
 simp only [za2] at hu
 cases e : za8 t u with
 | true =>
   rw [e] at hu
   have := za1 e; subst this
   cases hu; exact hx
 | false => rw [e] at hu; exact h u y hu
def zn5 (base : Nat) (M : Two) (W : World) (nt : Nat) (s : St) (a : Act) (w : World) : Prop :=
 zij base M W nt (za2 s.slots) (za2 s.objs) (zbo s.ice) a w /\ znu (za2 s.slots) s.kn
structure Ev where
 want : Bool
 v : AV
 os : List (Nat × Ob)
 ice : List Nat
 ent : Ent
def nothing : Ev := ⟨false, .tup [], [], [], ⟨[], []⟩⟩
def zsm (P : Program) (T : TT) (f : Nat -> Option AV) (g : Nat -> Option Ob) (c : Nat -> Bool) (o : Oper) (e : Ev) : Prop :=
 Holds P (zku T std f g c [] o) e.v e.os e.ice \/ (yk9 P f g c o e.v e.os /\ e.ice = [])
structure yt0 (P : Program) (T : TT) (ops : List Oper) (f : Nat -> Option AV) (g : Nat -> Option Ob) (c : Nat -> Bool) (o : Oper) (e : Ev) : Prop where
 guard : match zie ops o with
   | none => e.want = true
   | some (some t, w) => (∃ b, f t = some (.bool b) /\ e.want = (b == w)) \/ (f t = some (.tup []) /\ e.want = false)
   | some (none, _) => False
 no : e.want = false -> e.v = .tup [] /\ e.os = [] /\ e.ice = [] /\ e.ent = ⟨[], []⟩
 yes : e.want = true -> zsm P T f g c o e
def yip (f : Nat -> Option AV) (o : Oper) (e : Ev) : Prop := e.want = true ->
 (∀ id, id ∈ yop o.op (zcw (evf f []) (zbv o.op)) -> id ∈ e.ent.ids) /\ (zd0 o.op = true -> ∀ d, o.dst = some d -> d ∈ e.ent.ids) /\ (∀ id, id ∈ e.ice -> id ∈ e.ent.ids) /\
 (∀ id, id ∈ zyb e.os -> id ∈ e.ent.wr) /\ (zor o.op = true -> ∀ id, id ∈ yhe (zcw (evf f []) (zbv o.op)) -> id ∈ e.ent.wr)
def yim (ops : List Oper) (o : Oper) (e : Ev) (acc : List (Nat × Ent)) : Prop := e.want = true -> zk3 ops o.after.toList e.ent acc = true
def zy0 (acc : List (Nat × Ent)) (i : Nat) (e : Ev) : List (Nat × Ent) := if e.want = true then zvi acc i e.ent else acc
def Walk (P : Program) (T : TT) (draw : Bool) (ops : List Oper) : List Oper -> Nat -> (Nat -> Option AV) -> (Nat -> Option Ob) -> (Nat -> Bool) -> List (Nat × Ent) -> List Ev -> (Nat -> Option AV) -> (Nat -> Option Ob) -> (Nat -> Bool) -> Prop
 | [], _, f, g, c, _, [], f', g', c' => f' = f /\ g' = g /\ c' = c
 | o :: r, i, f, g, c, acc, e :: es, f', g', c' => yt0 P T ops f g c o e /\ (draw = true -> yip f o e /\ yim ops o e acc) /\
     Walk P T draw ops r (i + 1) (znm f o.dst e.v) (zbe g e.os) (zjd c e.ice) (if draw = true then zy0 acc i e else acc) es f' g' c'
 | _, _, _, _, _, _, _, _, _, _ => False
section
variable {P : Program} {T : TT} {S : zns} {Q : AV -> Prop} {draw : Bool} {ops : List Oper}
theorem ykj {f : Nat -> Option AV} {g : Nat -> Option Ob} {c : Nat -> Bool} {kn : List (Nat × Bool)} (h : znu f kn) (L : za9) (o : Oper) : zku T L f g c kn o = zku T L f g c [] o :=
 zln (zhl fun x _ => yjy h x) (fun _ _ => rfl) (fun _ _ _ => rfl) (fun _ _ _ => rfl)
theorem zyp (hS : zdg P S) {o : Oper} {i : Nat} {s : St} {acc : List (Nat × Ent)} {next : St -> List (Nat × Ent) -> zcf} (hk : znu (za2 s.slots) s.kn)
   (h : Sat P Q (zry T std S draw ops o i s acc next)) : ∃ e : Ev, e.want = true /\ zsm P T (za2 s.slots) (za2 s.objs) (zbo s.ice) o e /\ (draw = true -> yip (za2 s.slots) o e /\ yim ops o e acc) /\
     ∃ s', za2 s'.slots = znm (za2 s.slots) o.dst e.v /\ za2 s'.objs = zbe (za2 s.objs) e.os /\ zbo s'.ice = zjd (zbo s.ice) e.ice /\ znu (za2 s'.slots) s'.kn /\ Sat P Q (next s' (if draw = true then zy0 acc i e else acc)) := by
 have hval : zcw (evf (za2 s.slots) s.kn) (zbv o.op) = zcw (evf (za2 s.slots) []) (zbv o.op) := zhl fun x _ => yjy hk x
 have key : ∀ v os ice, (∀ ent, zsm P T (za2 s.slots) (za2 s.objs) (zbo s.ice) o ⟨true, v, os, ice, ent⟩) -> (∀ b, zre s.kn o.op = some b -> v = .bool b) ->
     Sat P Q (zgj draw ops o i s acc (zyj draw s o) (yoz draw s o) v os ice next) -> ∃ e : Ev, e.want = true /\ zsm P T (za2 s.slots) (za2 s.objs) (zbo s.ice) o e /\ (draw = true -> yip (za2 s.slots) o e /\ yim ops o e acc) /\
     ∃ s', za2 s'.slots = znm (za2 s.slots) o.dst e.v /\ za2 s'.objs = zbe (za2 s.objs) e.os /\ zbo s'.ice = zjd (zbo s.ice) e.ice /\ znu (za2 s'.slots) s'.kn /\ Sat P Q (next s' (if draw = true then zy0 acc i e else acc)) := by
   intro v os ice hh hl h
   refine ⟨⟨true, v, os, ice, ⟨zbs ice (zyj draw s o), zbs (yoz draw s o) (zyb os)⟩⟩, rfl, hh _, fun hd => ?_, s.eff o.dst v os ice (zre s.kn o.op), zlh .., zsj .., zrd .., ?_, ?_⟩
   · subst hd
     refine ⟨fun _ => ⟨fun id hid => ?_, fun hc d hd => ?_, fun id hid => ?_, fun id hid => ?_, fun hw id hid => ?_⟩, fun _ => ?_⟩
     · simp only [zae, List.mem_append, zyj]; rw [hval]; exact .inr (.inr hid)
     · simp [zae, zyj, hc, hd]
     · simp only [zae, List.mem_append]; exact .inl hid
     · simp only [zae, List.mem_append]; exact .inr hid
     · simp only [zae, List.mem_append, yoz, hw]; rw [hval]; exact .inl hid
     · simp only [zgj] at h
       split at h
       · rename_i e; exact e
       · cases h
   · show znu (za2 (s.put o.dst v)) (yqx s.kn o.dst (zre s.kn o.op))
     rw [zlh]
     exact zvx hk hl
   · unfold zgj at h
     cases draw with
     | false => exact h
     | true =>
       simp only at h
       split at h
       · exact h
       · cases h
 have key1 : ∀ v os ice, Holds P (zku T std (za2 s.slots) (za2 s.objs) (zbo s.ice) s.kn o) v os ice -> (∀ ent, zsm P T (za2 s.slots) (za2 s.objs) (zbo s.ice) o ⟨true, v, os, ice, ent⟩) /\ ∀ b, zre s.kn o.op = some b -> v = .bool b := by
   intro v os ice hh
   have hh' := hh
   rw [ykj hk] at hh'
   exact ⟨fun _ => .inl hh', fun b hb => yh3 hb hh⟩
 unfold zry at h
 split at h
 · rename_i m raw hsel
   obtain ⟨f, first, caps, zs, c1, c2, hm, rfl⟩ : ∃ f first caps zs, ztw o.op = true /\ zcw (evf (za2 s.slots) s.kn) (zbv o.op) = .fn f first caps :: zs /\ S.mt f = some m /\ raw = zbs first (zbs zs caps) := by
     split at hsel
     · rename_i c1
       split at hsel
       · rename_i f first caps zs c2
         split at hsel
         · rename_i m' hm; cases hsel; exact ⟨f, first, caps, zs, c1, c2, hm, rfl⟩
         · cases hsel
       · cases hsel
     · cases hsel
   obtain ⟨fo, ys, ts, e1⟩ : ∃ fo ys ts, o.op = .call { callee := .value fo, args := ys, argTypes := ts } := by
     unfold ztw at c1
     split at c1
     · rename_i fo ys ts e1; exact ⟨_, _, _, e1⟩
     · cases c1
   unfold yrh at h
   split at h
   · rename_i T' hT'
     split at h
     · rename_i mt hmt
       split at h
       · rename_i hfr
         obtain ⟨hps, h⟩ := ziq h
         cases h with
         | must hp h =>
           refine key _ _ [] (fun ent => .inr ⟨⟨fo, ys, ts, f, first, caps, zs, mt.ids, _, T', e1, by rw [<- hval]; exact c2, hS.mt f m hm _ _ T' hT' hp, ygf hmt hfr hps, rfl, rfl⟩, rfl⟩) (fun b hb => ?_) h
           rw [e1] at hb; cases hb
       · cases h
     · cases h
   · cases h
 unfold yri at h
 split at h
 · rename_i v os ice e; obtain ⟨k1, k2⟩ := key1 v os ice (by rw [e]; exact .ok ..); exact key v os ice k1 k2 h
 · rename_i b v os ice e; cases h with | need h hk => obtain ⟨k1, k2⟩ := key1 v os ice (by rw [e]; exact .okIf _ _ _ _ h); exact key v os ice k1 k2 hk
 · rename_i b v os ice e; cases h with | must h hk => obtain ⟨k1, k2⟩ := key1 v os ice (by rw [e]; exact .okP _ _ _ _ h); exact key v os ice k1 k2 hk
 · rename_i b v os q v' os' e
   cases hb : b with
   | true =>
     cases h with | ite ht he => obtain ⟨k1, k2⟩ := key1 v os [] (by rw [e]; exact .alt1 _ _ _ _ _ _ hb); exact key v os [] k1 k2 (ht hb)
   | false =>
     cases h with
     | ite ht he =>
       have h := he hb
       cases h with | need h hk => obtain ⟨k1, k2⟩ := key1 v' os' [] (by rw [e]; exact .alt2 _ _ _ _ _ _ hb h); exact key v' os' [] k1 k2 hk
 · rename_i f xs ice e
   split at h
   · rename_i p r hs
     cases h with | must h hk => obtain ⟨k1, k2⟩ := key1 r [] ice (by rw [e]; exact .call _ _ _ _ (hS.fz f _ p r hs h)); exact key r [] ice k1 k2 hk
   · rename_i hs
     cases h with | call h hk => obtain ⟨k1, k2⟩ := key1 _ [] ice (by rw [e]; exact .call _ _ _ _ h); exact key _ [] ice k1 k2 hk
 · rename_i f xs e
   split at h
   · rename_i p r hs
     split at h
     · rename_i hr
       cases h with | must h hk => obtain ⟨k1, k2⟩ := key1 r [] [] (by rw [e]; exact .callB _ _ _ hr (hS.fz f _ p r hs h)); exact key r [] [] k1 k2 hk
     · cases h
   · cases h
 · cases h
theorem zf5 (hS : zdg P S) {k : St -> zcf} : ∀ (r : List Oper) (i : Nat) (s : St) (acc : List (Nat × Ent)), znu (za2 s.slots) s.kn -> Sat P Q (zdd T std S draw ops r i s acc k) ->
   ∃ es s', Walk P T draw ops r i (za2 s.slots) (za2 s.objs) (zbo s.ice) acc es (za2 s'.slots) (za2 s'.objs) (zbo s'.ice) /\ znu (za2 s'.slots) s'.kn /\ Sat P Q (k s')
 | [], i, s, acc, hk, h => ⟨[], s, ⟨rfl, rfl, rfl⟩, hk, h⟩
 | o :: r, i, s, acc, hk, h => by
   have yes : ∀ s1 : St, s1.slots = s.slots -> s1.objs = s.objs -> s1.ice = s.ice -> znu (za2 s1.slots) s1.kn ->
       (match zie ops o with
         | none => true = true
         | some (some t, w) => (∃ b, za2 s.slots t = some (.bool b) /\ true = (b == w)) \/ (za2 s.slots t = some (.tup []) /\ true = false)
         | some (none, _) => False) -> Sat P Q (zry T std S draw ops o i s1 acc (fun s acc => zdd T std S draw ops r (i + 1) s acc k)) ->
       ∃ es s', Walk P T draw ops (o :: r) i (za2 s.slots) (za2 s.objs) (zbo s.ice) acc es (za2 s'.slots) (za2 s'.objs) (zbo s'.ice) /\ znu (za2 s'.slots) s'.kn /\ Sat P Q (k s') := by
     intro s1 e1 e2 e3 hk1 hg h
     obtain ⟨e, hw, hh, he, s2, h1, h2, h3, h4, h5⟩ := zyp hS hk1 h
     obtain ⟨es, s', hW, hk', h'⟩ := zf5 hS r (i + 1) s2 _ h4 h5
     rw [h1, h2, h3, e1, e2, e3] at hW
     rw [e1, e2, e3] at hh
     rw [e1] at he
     refine ⟨e :: es, s', ⟨⟨?_, fun h => (by rw [hw] at h; cases h), fun _ => hh⟩, he, hW⟩, hk', h'⟩
     rw [hw]; exact hg
   have no : ∀ s1 : St, s1.slots = s.slots -> s1.objs = s.objs -> s1.ice = s.ice -> znu (za2 s1.slots) s1.kn ->
       (match zie ops o with
         | none => false = true
         | some (some t, w) => (∃ b, za2 s.slots t = some (.bool b) /\ false = (b == w)) \/ (za2 s.slots t = some (.tup []) /\ false = false)
         | some (none, _) => False) -> Sat P Q (zdd T std S draw ops r (i + 1) (s1.eff o.dst (.tup []) [] [] none) acc k) ->
       ∃ es s', Walk P T draw ops (o :: r) i (za2 s.slots) (za2 s.objs) (zbo s.ice) acc es (za2 s'.slots) (za2 s'.objs) (zbo s'.ice) /\ znu (za2 s'.slots) s'.kn /\ Sat P Q (k s') := by
     intro s1 e1 e2 e3 hk1 hg h
     have h4 : znu (za2 (s1.eff o.dst (.tup []) [] [] none).slots) (s1.eff o.dst (.tup []) [] [] none).kn := by
       show znu (za2 (s1.put o.dst (.tup []))) (yqx s1.kn o.dst none)
       rw [zlh]
       exact zvx hk1 fun b hb => by cases hb
     obtain ⟨es, s', hW, hk', h'⟩ := zf5 hS r (i + 1) _ _ h4 h
     have q1 : za2 (s1.eff o.dst (.tup []) [] [] none).slots = znm (za2 s.slots) o.dst (.tup []) := by rw [<- e1]; exact zlh ..
     have q2 : za2 (s1.eff o.dst (.tup []) [] [] none).objs = zbe (za2 s.objs) [] := by rw [<- e2]; exact zsj ..
     have q3 : zbo (s1.eff o.dst (.tup []) [] [] none).ice = zjd (zbo s.ice) [] := by rw [<- e3]; exact zrd ..
     rw [q1, q2, q3] at hW
     refine ⟨nothing :: es, s', ⟨⟨hg, fun _ => ⟨rfl, rfl, rfl, rfl⟩, fun h => by cases h⟩, fun _ => ⟨fun h => by simp [nothing] at h, fun h => by simp [nothing] at h⟩, ?_⟩, hk', h'⟩
     simpa [zy0, nothing] using hW
   unfold zdd at h
   split at h
   · rename_i e; exact yes s rfl rfl rfl hk (by rw [e]) h
   · cases h
   · rename_i t w e
     rw [e] at yes no
     split at h
     · rename_i b hb
       have hf := hk t b hb
       split at h
       · exact yes s rfl rfl rfl hk (.inl ⟨true, hf, rfl⟩) h
       · exact yes s rfl rfl rfl hk (.inl ⟨false, hf, rfl⟩) h
       · rename_i h1 h2
         refine no s rfl rfl rfl hk (.inl ⟨b, hf, ?_⟩) h
         cases b <;> cases w <;> simp_all
     · split at h
       · rename_i hb
         exact no s rfl rfl rfl hk (.inr ⟨hb, rfl⟩) h
       · rename_i b hb
         split at h
         · cases h with | ite h1 h2 =>
           cases b with
           | true => exact yes (s.know t true) rfl rfl rfl (zem hk hb) (.inl ⟨true, hb, rfl⟩) (h1 rfl)
           | false => exact no (s.know t false) rfl rfl rfl (zem hk hb) (.inl ⟨false, hb, rfl⟩) (h2 rfl)
         · cases h with | ite h1 h2 =>
           cases b with
           | true => exact no (s.know t true) rfl rfl rfl (zem hk hb) (.inl ⟨true, hb, rfl⟩) (h1 rfl)
           | false => exact yes (s.know t false) rfl rfl rfl (zem hk hb) (.inl ⟨false, hb, rfl⟩) (h2 rfl)
       · cases h
end
end Sy
end Go.Proofs.YtfonekpmkdkgnaaGreatDoor
