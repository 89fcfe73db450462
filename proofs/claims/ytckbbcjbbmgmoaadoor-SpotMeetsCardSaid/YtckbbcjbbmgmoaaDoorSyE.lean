/- The symbolic executor: the operations that touch no block, second part. -/
import Derived.Test.YtckbbcjbbmgmoaaDoorSyD
import Derived.LaidEqlPtr
import Derived.ChangeKeysEq
import Derived.Lib.UnsafeStr
import Derived.Lib.Builder
namespace Go.Proofs.YtckbbcjbbmgmoaaDoor
namespace Sy
open Go Go.RowKit
set_option linter.unusedSimpArgs false
set_option linter.unusedVariables false

theorem eqGuard_plain {P : Program} {w : World} (op : BinOp) (t : TypeId) (x y : Operand) (a b : Value) (h1 : a ≠ .nilIface) (h2 : ∀ cs, a ≠ .agg cs) : (eqGuard op t x y a b).run P w = .ok () w := by
  cases a <;> first | exact absurd rfl h1 | exact absurd rfl (h2 _) | (cases op <;> rfl)
theorem eqGuard_nil {P : Program} {w : World} (op : BinOp) (t : TypeId) {x y : Operand} (hc : cond (isCst x) true (isCst y) = true) : (eqGuard op t x y .nilIface .nilIface).run P w = .ok () w := by
  cases x <;> cases y <;> first | (simp [isCst] at hc; done) | (cases op <;> rfl)
theorem eqGuard_ifb {P : Program} {w : World} (op : BinOp) (t : TypeId) {x y : Operand} (hc : cond (isCst x) true (isCst y) = true) (u : Value) (hu : u = .nilIface ∨ ∃ t p, u = .iface t p) : (eqGuard op t x y u .nilIface).run P w = .ok () w := by
  rcases hu with rfl | ⟨t', p, rfl⟩
  · exact eqGuard_nil op t hc
  · cases op <;> rfl
theorem equal_unfold (t : TypeId) (x y : Value) : Op.equal t x y = Op.equalIn (9999 + 1) t x y := rfl

section
variable {P : Program} {T : TT} {base : Nat} {M : Two} {W : World} {nt : Nat} {f : Nat → Option AV} {g : Nat → Option Ob} {c : Nat → Bool} {a : Act} {w : World} {D : Nat → Prop} {μ : Mu} {o : Oper}

/-- == at values that are no structs. -/
theorem alike_run (hT : TsOk P T) {t : Nat} {x y : AV} {b : Bool} (e : alike1 T std t x y = some b) {u v : Value} (hx : R w.heap D μ x u) (hy : R w.heap D μ y v) :
    (Op.equal t u v).run P w = .ok b w ∧ u ≠ .nilIface ∧ (∀ cs, u ≠ .agg cs) := by
  unfold alike1 at e
  split at e
  · rename_i i hi
    have ok := (hT t i hi).k
    split at e
    · rename_i hk
      rw [hk] at ok
      split at e
      · cases e
        rename_i p q
        cases hx; cases hy
        refine ⟨?_, by simp, by simp⟩
        rw [equal_unfold, Op.equalIn]
        simp [run_underlying ok]
        rfl
      · cases e
    · rename_i hk
      rw [hk] at ok
      obtain ⟨e', ok⟩ := ok
      split at e
      · cases e; cases hx; cases hy
        refine ⟨?_, by simp, by simp⟩
        rw [equal_unfold, Op.equalIn]
        simp [run_underlying ok]
      · cases e; cases hx; cases hy
        refine ⟨?_, by simp, by simp⟩
        rw [equal_unfold, Op.equalIn]
        simp [run_underlying ok]
      · cases e; cases hx; cases hy
        refine ⟨?_, by simp, by simp⟩
        rw [equal_unfold, Op.equalIn]
        simp [run_underlying ok]
      · split at e
        · rename_i a1 o1 a2 o2 el e1 e2 hpt
          split at e <;> cases e
          rename_i eli hel
          obtain ⟨j, z, hj, _⟩ := (hT el eli hel).info
          have hp2 := (hT t i hi).ptf el hpt
          obtain rfl := beq_eq e1
          obtain rfl := beq_eq e2
          cases hx with
          | ref _ _ b z m hm =>
            cases hy with
            | ref _ _ b' z' m' hm' =>
              rw [hm] at hm'
              cases hm'
              refine ⟨?_, by simp, by simp⟩
              rw [equal_unfold, Op.equalIn]
              simp [run_underlying hp2, sizeOf, typeInfo, hj, run_sameAddr_same]
        · cases e
      · cases e
    · rename_i hk
      rw [hk] at ok
      obtain ⟨ok, _⟩ := ok
      split at e
      · cases e; cases hx; cases hy
        refine ⟨?_, by simp, by simp⟩
        rw [equal_unfold, Op.equalIn]
        simp [run_underlying ok]
      · cases e; cases hx; cases hy
        refine ⟨?_, by simp, by simp⟩
        rw [equal_unfold, Op.equalIn]
        simp [run_underlying ok]
      · cases e; cases hx; cases hy
        refine ⟨?_, by simp, by simp⟩
        rw [equal_unfold, Op.equalIn]
        simp [run_underlying ok]
      · cases e
    · cases e
    · rename_i hk
      rw [hk] at ok
      obtain ⟨p', r', v', ok⟩ := ok
      split at e
      · cases e; cases hx; cases hy
        refine ⟨?_, by simp, by simp⟩
        rw [equal_unfold, Op.equalIn]
        simp [run_underlying ok]
      · cases e; cases hx; cases hy
        refine ⟨?_, by simp, by simp⟩
        rw [equal_unfold, Op.equalIn]
        simp [run_underlying ok]
      · cases e; cases hx; cases hy
        refine ⟨?_, by simp, by simp⟩
        rw [equal_unfold, Op.equalIn]
        simp [run_underlying ok]
      · cases e
    · cases e
  · cases e

theorem eqK_run {t : Nat} {ti : TI} (ok : TOk P t ti) (d : Nat) {x y : AV} {b : Bool} (e : eqK std ti.k x y = some b) : ti.isAgg = false ∧ x ≠ .dead ∧ y ≠ .dead ∧
    ∀ u v, R w.heap D μ x u → R w.heap D μ y v → (Op.equalIn (d + 1) t u v).run P w = .ok b w := by
  have hk := ok.k
  have hag := ok.agg
  unfold eqK at e
  split at e
  · rename_i k0 hti
    rw [hti] at hk
    rw [show P.underlying t = some (.int k0) from hk] at hag
    split at e
    · split at e
      · rename_i hkk
        obtain rfl := of_decide_eq_true hkk
        cases e
        refine ⟨by simpa using hag, by simp, by simp, fun u v ru rv => ?_⟩
        cases ru; cases rv
        exact run_equalIn_int w d _ _ _ _ _ hk
      · cases e
    · cases e
  · rename_i hti
    rw [hti] at hk
    rw [show P.underlying t = some .bool from hk] at hag
    split at e
    · cases e
      refine ⟨by simpa using hag, by simp, by simp, fun u v ru rv => ?_⟩
      cases ru; cases rv
      exact run_equalIn_bool' w d _ _ _ hk
    · cases e
  · rename_i hti
    rw [hti] at hk
    rw [show P.underlying t = some .string from hk] at hag
    split at e
    · cases e
      refine ⟨by simpa using hag, by simp, by simp, fun u v ru rv => ?_⟩
      cases ru with | str _ s1 q1 => cases rv with | str _ s2 q2 =>
      subst q1; subst q2
      rw [run_equalIn_string w d _ _ _ hk, bytes_eq]
      rfl
    · cases e
  · cases e
theorem part_run (hT : TsOk P T) {t : Nat} {i : TI} (hi : T.find t = some i) {cs : List AV} {us : Array Value} (h1 : ones us) (hr : RL w.heap D μ cs us) (off : Nat) (hlt : off + i.sz ≤ cs.length) (hs : i.isAgg = false → i.sz = 1) :
    ∃ u, (part t us off).run P w = .ok u w ∧ R w.heap D μ (match i.isAgg with | true => .agg (ltake (ldrop cs off) i.sz) | false => lget .dead cs off) u := by
  obtain ⟨e1, hr⟩ := hr
  have ok := hT t i hi
  unfold part
  simp only [Sem.run_bind, ok.isAgg_, ok.sizeOf, Result.andThen_ok]
  cases hag : i.isAgg with
  | true =>
    refine ⟨.agg (us.extract off (off + i.sz)), by simp [ok.sizeOf], .agg _ _ ?_ (fun j v hj => ?_) (fun j x v hx hj => ?_)⟩
    · rw [ltake_eq, ldrop_eq]; simp; omega
    · rw [Array.getElem?_extract] at hj
      split at hj
      · exact h1 _ v hj
      · cases hj
    · rw [Array.getElem?_extract] at hj
      rw [ltake_eq, ldrop_eq, List.getElem?_take, List.getElem?_drop] at hx
      split at hj
      · split at hx
        · exact hr _ x v hx hj
        · cases hx
      · cases hj
  | false =>
    have := hs hag
    have hlt' : off < us.size := by omega
    refine ⟨us[off], by simp [hlt'], hr off _ _ (lget_get .dead cs off (by omega)) (by simp [hlt'])⟩
theorem eqFs_run (hT : TsOk P T) (d : Nat) {q : Nat → List AV → List AV → Option Bool} {xs ys : List AV} {us vs : Array Value} (ox : ones us) (oy : ones vs) (hx : RL w.heap D μ xs us) (hy : RL w.heap D μ ys vs)
    (hq : ∀ t i xs ys b, T.find t = some i → q t xs ys = some b → xs.length = i.sz → ys.length = i.sz → ∀ u v, R w.heap D μ (match i.isAgg with | true => .agg xs | false => lget .dead xs 0) u → R w.heap D μ (match i.isAgg with | true => .agg ys | false => lget .dead ys 0) v → (Op.equalIn d t u v).run P w = .ok b w) : ∀ {F : List Field} {b : Bool}, (∀ f, f ∈ F → f.name ≠ "_") →
    eqFs T std q xs ys (F.map fun f => (f.offset, f.type)) = some b → (Op.eqFields d us vs F).run P w = .ok b w
  | [], b, _, e => by cases e; rfl
  | f :: F, b, hn, e => by
    have hn0 := hn f (by simp)
    have ih : ∀ {b}, eqFs T std q xs ys (F.map fun f => (f.offset, f.type)) = some b → (Op.eqFields d us vs F).run P w = .ok b w := fun e => eqFs_run hT d ox oy hx hy hq (fun g hg => hn g (by simp [hg])) e
    simp only [List.map_cons] at e
    unfold eqFs at e
    split at e
    · rename_i ti hti
      split at e
      · rename_i l1 l2
        have l1 := ble_le l1
        have l2 := ble_le l2
        rw [llen_eq] at l1 l2
        split at e
        · rename_i x hx1
          obtain ⟨u, p1, ru⟩ := part_run (P := P) hT hti ox hx f.offset l1 (hT _ _ hti).single
          obtain ⟨v, p2, rv⟩ := part_run (P := P) hT hti oy hy f.offset l2 (hT _ _ hti).single
          have hlen : ∀ zs : List AV, f.offset + ti.sz ≤ zs.length → (ltake (ldrop zs f.offset) ti.sz).length = ti.sz := fun zs hz => by rw [ltake_eq, ldrop_eq]; simp; omega
          have h0 : ∀ zs : List AV, f.offset + ti.sz ≤ zs.length → ti.isAgg = false → lget AV.dead (ltake (ldrop zs f.offset) ti.sz) 0 = lget .dead zs f.offset := fun zs hz hag => by
            have := (hT _ _ hti).single hag
            rw [lget_eq, lget_eq, ltake_eq, ldrop_eq, this]
            simp [List.getD]
          have heq := hq _ _ _ _ _ hti hx1 (hlen _ l1) (hlen _ l2) u v (by
            cases hag : ti.isAgg with
            | true => rw [hag] at ru; exact ru
            | false => rw [hag] at ru; simp only [h0 _ l1 hag]; exact ru) (by
            cases hag : ti.isAgg with
            | true => rw [hag] at rv; exact rv
            | false => rw [hag] at rv; simp only [h0 _ l2 hag]; exact rv)
          unfold Op.eqFields
          rw [if_pos hn0]
          simp only [Sem.run_bind, p1, p2, heq, Result.andThen_ok]
          split at e
          · rename_i b' hb'
            cases e
            cases x with
            | true => simpa [L2, std] using ih hb'
            | false => simp [L2, std]
          · cases e
        · cases e
      · cases e
    · cases e
theorem eqIs_run (hT : TsOk P T) (d : Nat) {q : List AV → List AV → Option Bool} {et : Nat} {ei : TI} (hei : T.find et = some ei) {xs ys : List AV} {us vs : Array Value} (ox : ones us) (oy : ones vs) (hx : RL w.heap D μ xs us) (hy : RL w.heap D μ ys vs)
    (hq : ∀ xs ys b, q xs ys = some b → xs.length = ei.sz → ys.length = ei.sz → ∀ u v, R w.heap D μ (match ei.isAgg with | true => .agg xs | false => lget .dead xs 0) u → R w.heap D μ (match ei.isAgg with | true => .agg ys | false => lget .dead ys 0) v → (Op.equalIn d et u v).run P w = .ok b w) : ∀ (n k : Nat) {b : Bool}, (k + n) * ei.sz ≤ xs.length → (k + n) * ei.sz ≤ ys.length →
    eqIs std q ei.sz xs ys k n = some b → (Op.eqItems d et ei.sz us vs (List.range' k n)).run P w = .ok b w
  | 0, k, b, _, _, e => by cases e; rfl
  | n + 1, k, b, l1, l2, e => by
    have ih : ∀ {b}, eqIs std q ei.sz xs ys (k + 1) n = some b → (Op.eqItems d et ei.sz us vs (List.range' (k + 1) n)).run P w = .ok b w := fun e => eqIs_run hT d hei ox oy hx hy hq n (k + 1) (by rw [show k + 1 + n = k + (n + 1) by omega]; exact l1) (by rw [show k + 1 + n = k + (n + 1) by omega]; exact l2) e
    unfold eqIs at e
    have hk : k * ei.sz + ei.sz ≤ (k + (n + 1)) * ei.sz := by
      rw [← Nat.succ_mul]; exact Nat.mul_le_mul_right _ (by omega)
    split at e
    · rename_i x hx1
      have l1' : k * ei.sz + ei.sz ≤ xs.length := Nat.le_trans hk l1
      have l2' : k * ei.sz + ei.sz ≤ ys.length := Nat.le_trans hk l2
      obtain ⟨u, p1, ru⟩ := part_run (P := P) hT hei ox hx (k * ei.sz) l1' (hT _ _ hei).single
      obtain ⟨v, p2, rv⟩ := part_run (P := P) hT hei oy hy (k * ei.sz) l2' (hT _ _ hei).single
      have hlen : ∀ zs : List AV, k * ei.sz + ei.sz ≤ zs.length → (ltake (ldrop zs (k * ei.sz)) ei.sz).length = ei.sz := fun zs hz => by rw [ltake_eq, ldrop_eq]; simp; omega
      have h0 : ∀ zs : List AV, ei.isAgg = false → lget AV.dead (ltake (ldrop zs (k * ei.sz)) ei.sz) 0 = lget .dead zs (k * ei.sz) := fun zs hag => by
        have := (hT _ _ hei).single hag
        rw [lget_eq, lget_eq, ltake_eq, ldrop_eq, this]
        simp [List.getD]
      have heq := hq _ _ _ hx1 (hlen _ l1') (hlen _ l2') u v (by
        cases hag : ei.isAgg with
        | true => rw [hag] at ru; exact ru
        | false => rw [hag] at ru; simp only [h0 _ hag]; exact ru) (by
        cases hag : ei.isAgg with
        | true => rw [hag] at rv; exact rv
        | false => rw [hag] at rv; simp only [h0 _ hag]; exact rv)
      rw [List.range'_succ]
      unfold Op.eqItems
      simp only [Sem.run_bind, p1, p2, heq, Result.andThen_ok]
      split at e
      · rename_i b' hb'
        cases e
        cases x with
        | true => simpa [L2, std] using ih hb'
        | false => simp [L2, std]
      · cases e
    · cases e
theorem eqD_run (hT : TsOk P T) (f0 : Nat) : ∀ (d : Nat) (t : Nat) (i : TI) (xs ys : List AV) (b : Bool), T.find t = some i → eqD T std d t xs ys = some b → xs.length = i.sz → ys.length = i.sz →
    ∀ u v, R w.heap D μ (match i.isAgg with | true => .agg xs | false => lget .dead xs 0) u → R w.heap D μ (match i.isAgg with | true => .agg ys | false => lget .dead ys 0) v → (Op.equalIn (f0 + d) t u v).run P w = .ok b w
  | 0, t, i, xs, ys, b, hi, e, _, _, u, v, _, _ => by cases e
  | d + 1, t, i, xs, ys, b, hi, e, lx, ly, u, v, ru, rv => by
    have ok := hT _ _ hi
    have ih := eqD_run hT f0 d
    unfold eqD at e
    rw [hi] at e
    simp only at e
    have hag := ok.agg
    have hkk := ok.k
    split at e
    · rename_i fs hk
      rw [hk] at hkk
      split at e
      · rename_i heq
        obtain ⟨hg, hs⟩ := ok.eqf heq
        obtain ⟨F', hF', hfs⟩ := hkk
        obtain ⟨F, hF, hnm, hh⟩ : ∃ F : Array Field, P.underlying t = some (.struct F) ∧ (∀ f, f ∈ F.toList → f.name ≠ "_") ∧ P.stoodInHeld t = false := by
          rcases hs with hs | ⟨n, e', hs⟩
          · exact hs
          · rw [hF'] at hs; cases hs
        rw [hF] at hF' hag; cases hF'
        simp only at hag
        rw [hag] at ru rv
        obtain ⟨us, rfl, o1, r1⟩ := ru.inv_agg
        obtain ⟨vs, rfl, o2, r2⟩ := rv.inv_agg
        rw [← hfs] at e
        have hfo : P.fieldsOf t = F' := by unfold Program.fieldsOf; rw [hF]
        rw [show f0 + (d + 1) = (f0 + d) + 1 from rfl, run_equalIn_struct w (f0 + d) t us vs (by rw [hfo]; exact hF) hh, hfo]
        exact eqFs_run hT (f0 + d) o1 o2 r1 r2 (fun t i xs ys b h1 h2 h3 h4 => ih t i xs ys b h1 h2 h3 h4) hnm e
      · cases e
    · rename_i n et esz hk
      rw [hk] at hkk
      obtain ⟨hu, hs⟩ := hkk
      obtain ⟨ei', hei', hes⟩ := Option.map_eq_some_iff.1 hs
      rw [hu] at hag
      simp only at hag
      rw [hag] at ru rv
      obtain ⟨us, rfl, o1, r1⟩ := ru.inv_agg
      obtain ⟨vs, rfl, o2, r2⟩ := rv.inv_agg
      split at e
      · rename_i ei heq hl1 hl2 hei
        have hl1 := beq_eq hl1
        have hl2 := beq_eq hl2
        rw [llen_eq] at hl1 hl2
        split at e
        · rename_i hsz
          obtain rfl := beq_eq hsz
          have hcl : P.cellsOf et = ei.sz := by unfold Program.cellsOf; rw [hei']; simpa using hes
          rw [show f0 + (d + 1) = (f0 + d) + 1 from rfl, run_equalIn_array w (f0 + d) us vs hu hei', hcl, List.range_eq_range']
          exact eqIs_run hT (f0 + d) hei o1 o2 r1 r2 (fun xs ys b h2 h3 h4 => ih et ei xs ys b hei h2 h3 h4) n 0 (by rw [Nat.zero_add]; omega) (by rw [Nat.zero_add]; omega) e
        · cases e
      · cases e
    · rename_i hk1 hk2
      unfold eq1 at e
      split at e
      · rename_i x y
        obtain ⟨hag', n1, n2, heq⟩ := eqK_run (w := w) (D := D) (μ := μ) ok (f0 + d) e
        rw [hag'] at ru rv
        exact heq u v ru rv
      · cases e
/-- == of any values that are looked at. -/
theorem alike_all (hT : TsOk P T) {t : Nat} {x y : AV} {b : Bool} (e : alike T std t x y = some b) {u v : Value} (hx : R w.heap D μ x u) (hy : R w.heap D μ y v) :
    (∀ op p q, (eqGuard op t p q u v).run P w = .ok () w) ∧ (binOp .eql t u v).run P w = .ok (.bool b) w ∧ (binOp .neq t u v).run P w = .ok (.bool (!b)) w := by
  unfold alike at e
  split at e
  · rename_i xs ys
    split at e
    · rename_i i hi
      split at e
      · rename_i heq lx ly
        have lx := beq_eq lx
        have ly := beq_eq ly
        rw [llen_eq] at lx ly
        have ok := hT _ _ hi
        obtain ⟨hg, hs⟩ := ok.eqf heq
        have hag : i.isAgg = true := by
          rw [ok.agg]
          rcases hs with ⟨F, hF, _⟩ | ⟨n, e', hF⟩ <;> rw [hF]
        have h1 : (Op.equal t u v).run P w = .ok b w := by
          rw [equal_unfold]
          exact eqD_run hT 9994 6 t i xs ys b hi e lx ly u v (by rw [hag]; exact hx) (by rw [hag]; exact hy)
        obtain ⟨us, rfl, o1, r1⟩ := hx.inv_agg
        obtain ⟨vs, rfl, o2, r2⟩ := hy.inv_agg
        refine ⟨fun op p q => ?_, ?_, ?_⟩
        · cases op <;> simp [eqGuard, program, Sem.run, hg]
        · simp [binOp, h1]
        · simp [binOp, h1]
      · cases e
    · cases e
  · obtain ⟨r1, r2, r3⟩ := alike_run hT e hx hy
    refine ⟨fun op p q => eqGuard_plain op t p q u v r2 r3, ?_, ?_⟩
    · unfold alike1 at e
      split at e
      · split at e <;> first | (cases e; done) | (split at e <;> first | (cases e; done) | (cases hx; cases hy; simp [binOp] at r1 ⊢; simp [r1]))
      · cases e
    · unfold alike1 at e
      split at e
      · split at e <;> first | (cases e; done) | (split at e <;> first | (cases e; done) | (cases hx; cases hy; simp [binOp] at r1 ⊢; simp [r1]))
      · cases e

variable (h : Sim base M W nt f g c a w D μ) (hd : ∀ d, o.dst = some d → d < nt)
include h hd

theorem says_bin (hT : TsOk P T) {op : BinOp} {t t' : TypeId} {x y : Operand} (e : o.op = .binOp op t x y t') {vals : List AV} (hv : Ops w.heap D μ a [x, y] vals) :
    Says P base M W nt f g c o a w (cBin T std op t vals) := by
  match vals, hv with
  | [vx, vy], ⟨hx, hy, _⟩ =>
    simp only [cBin]
    unfold bin
    split
    · rename_i k m k' n
      have e1 := hx.inv_int
      have e2 := hy.inv_int
      have shift : ∀ u, (op = .shl ∨ op = .shr) → (Op.shift op k m k' n).run P w = .ok u w → (execOp a.eval o).run P w = .ok (.value u) w := by
        intro u hop hu
        unfold execOp
        rw [e]
        simp only [e1, e2, Sem.run_bind, eqGuard_plain op t x y (.int k m) (.int k' n) (by simp) (by simp), Result.andThen_ok]
        rcases hop with rfl | rfl <;> simp [binOp, hu]
      split
      · intro hb
        have hn : 0 ≤ n := of_decide_eq_true hb
        refine adv_value h hd (u := .int k (wshl k m n)) (shift _ (.inl rfl) ?_) (.int _ _)
        have : ¬ n < 0 := by omega
        simp [Op.shift, this]
        rfl
      · intro hb
        have hn : 0 ≤ n := of_decide_eq_true hb
        refine adv_value h hd (u := .int k (wshr k m n)) (shift _ (.inr rfl) ?_) (.int _ _)
        have : ¬ n < 0 := by omega
        simp [Op.shift, this]
        rfl
      · rename_i h1 h2
        split
        · rename_i hk
          obtain rfl : k = k' := of_decide_eq_true hk
          exact says_arith h hd e e1 e2 ⟨h1, h2⟩
        · trivial
    · exact says_texts h hd e hx hy
    · rename_i sz n get
      split
      · rename_i hsl
        obtain ⟨el, hel⟩ : ∃ el, P.underlying t = some (.slice el) := by
          unfold isSl at hsl
          split at hsl
          · rename_i i hi
            have ok := (hT t i hi).k
            split at hsl
            · rename_i hk; rw [hk] at ok; exact ⟨_, ok.1⟩
            · cases hsl
          · cases hsl
        have key : nblt 0 n = true → (Op.equal t (a.eval x) (a.eval y)).run P w = .ok false w ∧ a.eval x ≠ .nilIface ∧ (∀ cs, a.eval x ≠ .agg cs) ∧ (∃ p q r, a.eval x = .slice p q r) ∧ ∃ p q r, a.eval y = .slice p q r := by
          intro hn
          have hn := blt_lt hn
          generalize a.eval x = u at hx
          generalize a.eval y = v at hy
          cases hy
          cases hx with
          | lst0 => omega
          | lst _ _ _ b o' cap vs =>
            refine ⟨?_, by simp, by simp, ⟨_, _, _, rfl⟩, ⟨_, _, _, rfl⟩⟩
            rw [equal_unfold, Op.equalIn]
            simp [run_underlying hel]
        split
        · intro hn
          obtain ⟨r1, r2, r3, ⟨p, q, r, hp⟩, ⟨p', q', r', hp'⟩⟩ := key hn
          refine adv_value h hd (u := .bool false) ?_ (.bool _)
          unfold execOp
          rw [e]
          rw [hp, hp'] at r1
          rw [hp] at r2 r3
          simp [eqGuard_plain .eql t x y _ (.slice p' q' r') r2 r3, binOp, hp, hp', r1]
        · intro hn
          obtain ⟨r1, r2, r3, ⟨p, q, r, hp⟩, ⟨p', q', r', hp'⟩⟩ := key hn
          refine adv_value h hd (u := .bool true) ?_ (.bool _)
          unfold execOp
          rw [e]
          rw [hp, hp'] at r1
          rw [hp] at r2 r3
          simp [eqGuard_plain .neq t x y _ (.slice p' q' r') r2 r3, binOp, hp, hp', r1]
        · trivial
      · trivial
    · have run : ∀ b op', (op' = .eql ∨ op' = .neq) → op = op' → alike T std t vx vy = some b → (execOp a.eval o).run P w = .ok (.value (.bool (if op' = .eql then b else !b))) w := by
        intro b op' hop hop2 hb
        obtain ⟨r1, r2, r3⟩ := alike_all hT hb hx hy
        subst hop2
        unfold execOp
        rw [e]
        rcases hop with rfl | rfl
        · simp [r1, r2]
        · simp [r1, r3]
      split
      · split
        · rename_i b hb
          exact adv_value h hd (run b .eql (.inl rfl) rfl hb) (.bool _)
        · trivial
      · split
        · rename_i b hb
          exact adv_value h hd (run b .neq (.inr rfl) rfl hb) (.bool _)
        · trivial
      · trivial


theorem says_binC (hT : TsOk P T) {op : BinOp} {t t' : TypeId} {x y : Operand} (e : o.op = .binOp op t x y t') {vals : List AV} (hv : Ops w.heap D μ a [x, y] vals) :
    Says P base M W nt f g c o a w (cBinC T std op t (cond (isCst x) true (isCst y)) vals) := by
  unfold cBinC
  split
  · obtain ⟨hx, hy, _⟩ := hv
    split
    · rename_i sz ag ze eqf p1 p2 p3 hc hi
      obtain ⟨ms, ok⟩ := (hT t _ hi).k
      have e1 : a.eval x = .nilIface := by generalize a.eval x = u at hx; cases hx; rfl
      have e2 : a.eval y = .nilIface := by generalize a.eval y = u at hy; cases hy; rfl
      have hg := eqGuard_nil (P := P) (w := w) op t hc
      have he : (Op.equal t .nilIface .nilIface).run P w = .ok true w := by
        rw [equal_unfold, Op.equalIn]
        simp [run_underlying ok]
      split
      · refine adv_value h hd (u := .bool true) ?_ (.bool _)
        unfold execOp
        rw [e]
        simp [e1, e2, hg, binOp, he]
      · refine adv_value h hd (u := .bool false) ?_ (.bool _)
        unfold execOp
        rw [e]
        simp [e1, e2, hg, binOp, he]
      · trivial
    · trivial
  · rename_i b
    obtain ⟨hx, hy, _⟩ := hv
    split
    · rename_i sz ag ze eqf p1 p2 p3 hc hi
      obtain ⟨ms, ok⟩ := (hT t _ hi).k
      have e2 : a.eval y = .nilIface := by generalize a.eval y = u at hy; cases hy; rfl
      obtain ⟨u, e1, hu, hb⟩ : ∃ u, a.eval x = u ∧ (u = .nilIface ∨ ∃ t p, u = .iface t p) ∧ ((Op.equal t u .nilIface).run P w = .ok b w) := by
        generalize a.eval x = u at hx
        cases hx with
        | ifn => exact ⟨_, rfl, .inl rfl, by rw [equal_unfold, Op.equalIn]; simp [run_underlying ok]⟩
        | ifs t' p => exact ⟨_, rfl, .inr ⟨t', p, rfl⟩, by rw [equal_unfold, Op.equalIn]; simp [run_underlying ok]⟩
      have hg := eqGuard_ifb (P := P) (w := w) op t hc u hu
      split
      · refine adv_value h hd (u := .bool b) ?_ (.bool _)
        unfold execOp
        rw [e]
        simp [e1, e2, hg, binOp, hb]
      · refine adv_value h hd (u := .bool (!b)) ?_ (.bool _)
        unfold execOp
        rw [e]
        simp [e1, e2, hg, binOp, hb]
      · trivial
    · trivial
  · exact says_bin h hd hT e hv
theorem says_min {x y : Operand} {ts : Array TypeId} (e : o.op = .call { callee := .builtin .min, args := #[x, y], argTypes := ts }) {vals : List AV}
    (hv : Ops w.heap D μ a [x, y] vals) : Says P base M W nt f g c o a w (cMin std vals) := by
  match vals, hv with
  | [v, v'], ⟨hx, hy, _⟩ =>
    unfold cMin
    split
    · rename_i k m k' n he
      simp only [List.cons.injEq, and_true] at he
      obtain ⟨rfl, rfl⟩ := he
      split
      · rename_i hk
        obtain rfl : k = k' := of_decide_eq_true hk
        refine adv_value h hd (u := .int k (min m n)) ?_ (.int _ _)
        unfold execOp
        rw [e]
        have : (if n < m then n else m) = min m n := by rw [Int.min_def]; split <;> split <;> omega
        simp [resolve, invoke, builtin, Builtin.min_, hx.inv_int, hy.inv_int, Builtin.min2, this]
      · trivial
    · trivial
theorem says_max {x y : Operand} {ts : Array TypeId} (e : o.op = .call { callee := .builtin .max, args := #[x, y], argTypes := ts }) {vals : List AV}
    (hv : Ops w.heap D μ a [x, y] vals) : Says P base M W nt f g c o a w (cMax std vals) := by
  match vals, hv with
  | [v, v'], ⟨hx, hy, _⟩ =>
    unfold cMax
    split
    · rename_i k m k' n he
      simp only [List.cons.injEq, and_true] at he
      obtain ⟨rfl, rfl⟩ := he
      split
      · rename_i hk
        obtain rfl : k = k' := of_decide_eq_true hk
        refine adv_value h hd (u := .int k (max m n)) ?_ (.int _ _)
        unfold execOp
        rw [e]
        have : (if n > m then n else m) = max m n := by rw [Int.max_def]; split <;> split <;> omega
        simp [resolve, invoke, builtin, Builtin.max_, hx.inv_int, hy.inv_int, Builtin.max2, this]
      · trivial
    · trivial

theorem says_nil {x : Operand} (e : o.op = .nilCheck x) {vals : List AV} (hv : Ops w.heap D μ a [x] vals) : Says P base M W nt f g c o a w (cNil vals) := by
  match vals, hv with
  | [v], ⟨hv, _⟩ =>
    have run : ∀ ad, a.eval x = .pointer (some ad) → (execOp a.eval o).run P w = .ok (.value (.pointer (some ad))) w := by
      intro ad hu; unfold execOp; rw [e]; simp [hu]
    unfold cNil
    split
    · rename_i id off he
      simp only [List.cons.injEq, and_true] at he; subst he
      generalize hu : a.eval x = u at *
      have hv' := hv
      cases hv; exact adv_value h hd (run _ rfl) hv'
    · rename_i id sz i off he
      simp only [List.cons.injEq, and_true] at he; subst he
      generalize hu : a.eval x = u at *
      have hv' := hv
      cases hv; exact adv_value h hd (run _ rfl) hv'
    rotate_left
    · rename_i id off n i he
      simp only [List.cons.injEq, and_true] at he; subst he
      generalize hu : a.eval x = u at *
      have hv' := hv
      cases hv; exact adv_value h hd (run _ rfl) hv'
    rotate_left
    · rename_i n get he
      simp only [List.cons.injEq, and_true] at he; subst he
      generalize hu : a.eval x = u at *
      have hv' := hv
      cases hv; exact adv_value h hd (run _ rfl) hv'
    · trivial
end

end Sy
end Go.Proofs.YtckbbcjbbmgmoaaDoor
