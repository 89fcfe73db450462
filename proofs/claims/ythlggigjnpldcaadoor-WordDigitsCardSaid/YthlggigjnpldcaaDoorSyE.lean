/- The symbolic executor: the operations that touch no block, second part. -/
import Derived.Test.YthlggigjnpldcaaDoorSyD
import Derived.LaidEqlPtr
import Derived.ChangeKeysEq
import Derived.Lib.UnsafeStr
import Derived.Lib.Builder
namespace Go.Proofs.YthlggigjnpldcaaDoor
namespace Sy
open Go Go.RowKit
set_option linter.unusedSimpArgs false
set_option linter.unusedVariables false

theorem eqGuard_plain {P : Program} {w : World} (op : BinOp) (t : TypeId) (x y : Operand) (a b : Value) (h1 : a ≠ .nilIface) (h2 : ∀ cs, a ≠ .agg cs) : (eqGuard op t x y a b).run P w = .ok () w := by
  cases a <;> first | exact absurd rfl h1 | exact absurd rfl (h2 _) | (cases op <;> rfl)
theorem eqGuard_nil {P : Program} {w : World} (op : BinOp) (t : TypeId) {x y : Operand} (hc : cond (isCst x) true (isCst y) = true) : (eqGuard op t x y .nilIface .nilIface).run P w = .ok () w := by
  cases x <;> cases y <;> first | (simp [isCst] at hc; done) | (cases op <;> rfl)
theorem eqGuard_ifb {P : Program} {w : World} (op : BinOp) (t : TypeId) {x y : Operand} (hc : cond (isCst x) true (isCst y) = true) (u : Value) (hu : u = .nilIface ∨ ∃ t p, u = .iface t p) : (eqGuard op t x y u .nilIface).run P w = .ok () w := by
  rcases hu with rfl | ⟨t', p, rfl⟩
  · exact eqGuard_nil op t hc
  · cases op <;> rfl
theorem equal_unfold (t : TypeId) (x y : Value) : Op.equal t x y = Op.equalIn (9999 + 1) t x y := rfl

section
variable {P : Program} {T : TT} {base : Nat} {M : Two} {W : World} {nt : Nat} {f : Nat → Option AV} {g : Nat → Option Ob} {c : Nat → Bool} {a : Act} {w : World} {D : Nat → Prop} {μ : Mu} {o : Oper}

/-- == at values that are no structs. -/
theorem alike_run (hT : TsOk P T) {t : Nat} {x y : AV} {b : Bool} (e : alike1 T std t x y = some b) {u v : Value} (hx : R w.heap D μ x u) (hy : R w.heap D μ y v) :
    (Op.equal t u v).run P w = .ok b w ∧ u ≠ .nilIface ∧ (∀ cs, u ≠ .agg cs) := by
  unfold alike1 at e
  split at e
  · rename_i i hi
    have ok := (hT t i hi).k
    split at e
    · rename_i hk
      rw [hk] at ok
      split at e
      · cases e
        rename_i p q
        cases hx; cases hy
        refine ⟨?_, by simp, by simp⟩
        rw [equal_unfold, Op.equalIn]
        simp [run_underlying ok]
        rfl
      · cases e
    · rename_i hk
      rw [hk] at ok
      obtain ⟨e', ok⟩ := ok
      split at e
      · cases e; cases hx; cases hy
        refine ⟨?_, by simp, by simp⟩
        rw [equal_unfold, Op.equalIn]
        simp [run_underlying ok]
      · cases e; cases hx; cases hy
        refine ⟨?_, by simp, by simp⟩
        rw [equal_unfold, Op.equalIn]
        simp [run_underlying ok]
      · cases e; cases hx; cases hy
        refine ⟨?_, by simp, by simp⟩
        rw [equal_unfold, Op.equalIn]
        simp [run_underlying ok]
      · split at e
        · rename_i a1 o1 a2 o2 el e1 e2 hpt
          split at e <;> cases e
          rename_i eli hel
          obtain ⟨j, z, hj, _⟩ := (hT el eli hel).info
          have hp2 := (hT t i hi).ptf el hpt
          obtain rfl := beq_eq e1
          obtain rfl := beq_eq e2
          cases hx with
          | ref _ _ b z m hm =>
            cases hy with
            | ref _ _ b' z' m' hm' =>
              rw [hm] at hm'
              cases hm'
              refine ⟨?_, by simp, by simp⟩
              rw [equal_unfold, Op.equalIn]
              simp [run_underlying hp2, sizeOf, typeInfo, hj, run_sameAddr_same]
        · cases e
      · cases e
    · rename_i hk
      rw [hk] at ok
      obtain ⟨ok, _⟩ := ok
      split at e
      · cases e; cases hx; cases hy
        refine ⟨?_, by simp, by simp⟩
        rw [equal_unfold, Op.equalIn]
        simp [run_underlying ok]
      · cases e; cases hx; cases hy
        refine ⟨?_, by simp, by simp⟩
        rw [equal_unfold, Op.equalIn]
        simp [run_underlying ok]
      · cases e; cases hx; cases hy
        refine ⟨?_, by simp, by simp⟩
        rw [equal_unfold, Op.equalIn]
        simp [run_underlying ok]
      · cases e
    · cases e
    · rename_i hk
      rw [hk] at ok
      obtain ⟨p', r', v', ok⟩ := ok
      split at e
      · cases e; cases hx; cases hy
        refine ⟨?_, by simp, by simp⟩
        rw [equal_unfold, Op.equalIn]
        simp [run_underlying ok]
      · cases e; cases hx; cases hy
        refine ⟨?_, by simp, by simp⟩
        rw [equal_unfold, Op.equalIn]
        simp [run_underlying ok]
      · cases e; cases hx; cases hy
        refine ⟨?_, by simp, by simp⟩
        rw [equal_unfold, Op.equalIn]
        simp [run_underlying ok]
      · cases e
    · cases e
  · cases e

theorem eqK_run {t : Nat} {ti : TI} (ok : TOk P t ti) (d : Nat) {x y : AV} {b : Bool} (e : eqK std ti.k x y = some b) : ti.isAgg = false ∧ x ≠ .dead ∧ y ≠ .dead ∧
    ∀ u v, R w.heap D μ x u → R w.heap D μ y v → (Op.equalIn (d + 1) t u v).run P w = .ok b w := by
  have hk := ok.k
  have hag := ok.agg
  unfold eqK at e
  split at e
  · rename_i k0 hti
    rw [hti] at hk
    rw [show P.underlying t = some (.int k0) from hk] at hag
    split at e
    · split at e
      · rename_i hkk
        obtain rfl := of_decide_eq_true hkk
        cases e
        refine ⟨by simpa using hag, by simp, by simp, fun u v ru rv => ?_⟩
        cases ru; cases rv
        exact run_equalIn_int w d _ _ _ _ _ hk
      · cases e
    · cases e
  · rename_i hti
    rw [hti] at hk
    rw [show P.underlying t = some .bool from hk] at hag
    split at e
    · cases e
      refine ⟨by simpa using hag, by simp, by simp, fun u v ru rv => ?_⟩
      cases ru; cases rv
      exact run_equalIn_bool' w d _ _ _ hk
    · cases e
  · rename_i hti
    rw [hti] at hk
    rw [show P.underlying t = some .string from hk] at hag
    split at e
    · cases e
      refine ⟨by simpa using hag, by simp, by simp, fun u v ru rv => ?_⟩
      cases ru with | str _ s1 q1 => cases rv with | str _ s2 q2 =>
      subst q1; subst q2
      rw [run_equalIn_string w d _ _ _ hk, bytes_eq]
      rfl
    · cases e
  · cases e
theorem eqAt_run (hT : TsOk P T) (d : Nat) {xs ys : List AV} {us vs : Array Value} (hx : RL w.heap D μ xs us) (hy : RL w.heap D μ ys vs) : ∀ {F : List Field} {b : Bool}, (∀ f, f ∈ F → f.name ≠ "_") →
    eqAt T std xs ys (F.map fun f => (f.offset, f.type)) = some b → (Op.eqFields (d + 1) us vs F).run P w = .ok b w
  | [], b, _, e => by cases e; rfl
  | f :: F, b, hn, e => by
    have hn0 := hn f (by simp)
    have ih : ∀ {b}, eqAt T std xs ys (F.map fun f => (f.offset, f.type)) = some b → (Op.eqFields (d + 1) us vs F).run P w = .ok b w := fun e => eqAt_run hT d hx hy (fun g hg => hn g (by simp [hg])) e
    have get : ∀ {zs : List AV} {ws : Array Value}, RL w.heap D μ zs ws → lget AV.dead zs f.offset ≠ .dead → ∃ v, ws[f.offset]? = some v ∧ R w.heap D μ (lget .dead zs f.offset) v := by
      intro zs ws hz hne
      rw [lget_eq] at hne ⊢
      cases hq : zs[f.offset]? with
      | none => exact absurd (by simp [List.getD, hq]) hne
      | some z =>
        have hlt : f.offset < ws.size := by rw [← hz.1]; exact (List.getElem?_eq_some_iff.1 hq).1
        refine ⟨ws[f.offset], by simp [hlt], ?_⟩
        have := hz.2 f.offset z ws[f.offset] hq (by simp [hlt])
        simpa [List.getD, hq] using this
    simp only [List.map_cons] at e
    unfold eqAt at e
    split at e
    · rename_i ti hti
      split at e
      · rename_i x hx1
        obtain ⟨hag, n1, n2, heq⟩ := eqK_run (w := w) (D := D) (μ := μ) (hT _ _ hti) d hx1
        obtain ⟨u, hu, ru⟩ := get hx n1
        obtain ⟨v, hv, rv⟩ := get hy n2
        have p1 : (part f.type us f.offset).run P w = .ok u w := by
          unfold part; simp [(hT _ _ hti).isAgg_, hag, hu]
        have p2 : (part f.type vs f.offset).run P w = .ok v w := by
          unfold part; simp [(hT _ _ hti).isAgg_, hag, hv]
        unfold Op.eqFields
        rw [if_pos hn0]
        simp only [Sem.run_bind, p1, p2, heq u v ru rv, Result.andThen_ok]
        split at e
        · rename_i b' hb'
          cases e
          cases x with
          | true => simpa [L2, std] using ih hb'
          | false => simp [L2, std]
        · cases e
      · cases e
    · cases e
theorem eqL_run (hT : TsOk P T) (d : Nat) {et : Nat} {ti : TI} (hti : T.find et = some ti) {xs ys : List AV} {us vs : Array Value} (hx : RL w.heap D μ xs us) (hy : RL w.heap D μ ys vs) : ∀ (m k : Nat), k ≤ xs.length → m + k = xs.length → ∀ {b : Bool},
    eqL std ti.k (xs.drop m) (ys.drop m) = some b → (Op.eqItems (d + 1) et 1 us vs (List.range' m k)).run P w = .ok b w
  | m, 0, _, hm, b, e => by
    rw [List.drop_eq_nil_of_le (show xs.length ≤ m by omega)] at e
    cases hq : ys.drop m with
    | nil => rw [hq] at e; cases e; rfl
    | cons y r => rw [hq] at e; cases e
  | m, k + 1, hk, hm, b, e => by
    have hmx : m < xs.length := by omega
    rw [List.drop_eq_getElem_cons hmx] at e
    cases hq : ys.drop m with
    | nil => rw [hq] at e; cases e
    | cons y r =>
      have hmy : m < ys.length := by
        apply Nat.lt_of_not_le
        intro hle
        rw [List.drop_eq_nil_of_le hle] at hq
        cases hq
      rw [List.drop_eq_getElem_cons hmy] at e
      unfold eqL at e
      split at e
      · rename_i x hx1
        obtain ⟨hag, n1, n2, heq⟩ := eqK_run (w := w) (D := D) (μ := μ) (hT _ _ hti) d hx1
        have hmu : m < us.size := by rw [← hx.1]; exact hmx
        have hmv : m < vs.size := by rw [← hy.1]; exact hmy
        have ru := hx.2 m xs[m] us[m] (List.getElem?_eq_getElem hmx) (by simp [hmu])
        have rv := hy.2 m ys[m] vs[m] (List.getElem?_eq_getElem hmy) (by simp [hmv])
        have p1 : (part et us (m * 1)).run P w = .ok us[m] w := by
          unfold part; simp [(hT _ _ hti).isAgg_, hag, hmu]
        have p2 : (part et vs (m * 1)).run P w = .ok vs[m] w := by
          unfold part; simp [(hT _ _ hti).isAgg_, hag, hmv]
        rw [List.range'_succ]
        unfold Op.eqItems
        simp only [Sem.run_bind, p1, p2, heq _ _ ru rv, Result.andThen_ok]
        split at e
        · rename_i b' hb'
          cases e
          have ih := eqL_run hT d hti hx hy (m + 1) k (by omega) (by omega) hb'
          cases x with
          | true => simpa [L2, std] using ih
          | false => simp [L2, std]
        · cases e
      · cases e
/-- == of any values that are looked at. -/
theorem alike_all (hT : TsOk P T) {t : Nat} {x y : AV} {b : Bool} (e : alike T std t x y = some b) {u v : Value} (hx : R w.heap D μ x u) (hy : R w.heap D μ y v) :
    (∀ op p q, (eqGuard op t p q u v).run P w = .ok () w) ∧ (binOp .eql t u v).run P w = .ok (.bool b) w ∧ (binOp .neq t u v).run P w = .ok (.bool (!b)) w := by
  unfold alike at e
  split at e
  · rename_i xs ys
    split at e
    · rename_i i hi
      split at e
      · rename_i fs heq hk
        have ok := hT _ _ hi
        obtain ⟨hg, hs⟩ := ok.eqf heq
        have hk' := ok.k
        rw [hk] at hk'
        obtain ⟨F', hF', hfs⟩ := hk'
        obtain ⟨F, hF, hnm, hh⟩ : ∃ F : Array Field, P.underlying t = some (.struct F) ∧ (∀ f, f ∈ F.toList → f.name ≠ "_") ∧ P.stoodInHeld t = false := by
          rcases hs with hs | ⟨n, e', hs⟩
          · exact hs
          · rw [hF'] at hs; cases hs
        rw [hF] at hF'; cases hF'
        obtain ⟨us, rfl, o1, r1⟩ := hx.inv_agg
        obtain ⟨vs, rfl, o2, r2⟩ := hy.inv_agg
        rw [← hfs] at e
        have hfo : P.fieldsOf t = F' := by unfold Program.fieldsOf; rw [hF]
        have hr := eqAt_run hT 9998 r1 r2 hnm e
        have h1 : (Op.equal t (.agg us) (.agg vs)).run P w = .ok b w := by
          rw [equal_unfold, run_equalIn_struct w 9999 t us vs (by rw [hfo]; exact hF) hh, hfo]
          exact hr
        refine ⟨fun op p q => ?_, ?_, ?_⟩
        · cases op <;> simp [eqGuard, program, Sem.run, hg]
        · simp [binOp, h1]
        · simp [binOp, h1]
      · rename_i n e' heq hk
        have ok := hT _ _ hi
        obtain ⟨hg, -⟩ := ok.eqf heq
        have hk' := ok.k
        rw [hk] at hk'
        obtain ⟨hu, hs⟩ := hk'
        obtain ⟨ei', hei', hes⟩ := Option.map_eq_some_iff.1 hs
        obtain ⟨us, rfl, o1, r1⟩ := hx.inv_agg
        obtain ⟨vs, rfl, o2, r2⟩ := hy.inv_agg
        split at e
        · rename_i ei hei hlen
          have hlen := beq_eq hlen
          rw [llen_eq] at hlen
          have hcl : P.cellsOf e' = 1 := by unfold Program.cellsOf; rw [hei']; simpa using hes
          have hr := eqL_run (w := w) hT 9998 hei r1 r2 0 xs.length (Nat.le_refl _) (by rw [Nat.zero_add]) (by rw [List.drop_zero, List.drop_zero]; exact e)
          have h1 : (Op.equal t (.agg us) (.agg vs)).run P w = .ok b w := by
            rw [equal_unfold, run_equalIn_array w 9999 us vs hu hei', hcl, List.range_eq_range', ← hlen]
            exact hr
          refine ⟨fun op p q => ?_, ?_, ?_⟩
          · cases op <;> simp [eqGuard, program, Sem.run, hg]
          · simp [binOp, h1]
          · simp [binOp, h1]
        · cases e
      · cases e
    · cases e
  · obtain ⟨r1, r2, r3⟩ := alike_run hT e hx hy
    refine ⟨fun op p q => eqGuard_plain op t p q u v r2 r3, ?_, ?_⟩
    · unfold alike1 at e
      split at e
      · split at e <;> first | (cases e; done) | (split at e <;> first | (cases e; done) | (cases hx; cases hy; simp [binOp] at r1 ⊢; simp [r1]))
      · cases e
    · unfold alike1 at e
      split at e
      · split at e <;> first | (cases e; done) | (split at e <;> first | (cases e; done) | (cases hx; cases hy; simp [binOp] at r1 ⊢; simp [r1]))
      · cases e

variable (h : Sim base M W nt f g c a w D μ) (hd : ∀ d, o.dst = some d → d < nt)
include h hd

theorem says_bin (hT : TsOk P T) {op : BinOp} {t t' : TypeId} {x y : Operand} (e : o.op = .binOp op t x y t') {vals : List AV} (hv : Ops w.heap D μ a [x, y] vals) :
    Says P base M W nt f g c o a w (cBin T std op t vals) := by
  match vals, hv with
  | [vx, vy], ⟨hx, hy, _⟩ =>
    simp only [cBin]
    unfold bin
    split
    · rename_i k m k' n
      have e1 := hx.inv_int
      have e2 := hy.inv_int
      have shift : ∀ u, (op = .shl ∨ op = .shr) → (Op.shift op k m k' n).run P w = .ok u w → (execOp a.eval o).run P w = .ok (.value u) w := by
        intro u hop hu
        unfold execOp
        rw [e]
        simp only [e1, e2, Sem.run_bind, eqGuard_plain op t x y (.int k m) (.int k' n) (by simp) (by simp), Result.andThen_ok]
        rcases hop with rfl | rfl <;> simp [binOp, hu]
      split
      · intro hb
        have hn : 0 ≤ n := of_decide_eq_true hb
        refine adv_value h hd (u := .int k (wshl k m n)) (shift _ (.inl rfl) ?_) (.int _ _)
        have : ¬ n < 0 := by omega
        simp [Op.shift, this]
        rfl
      · intro hb
        have hn : 0 ≤ n := of_decide_eq_true hb
        refine adv_value h hd (u := .int k (wshr k m n)) (shift _ (.inr rfl) ?_) (.int _ _)
        have : ¬ n < 0 := by omega
        simp [Op.shift, this]
        rfl
      · rename_i h1 h2
        split
        · rename_i hk
          obtain rfl : k = k' := of_decide_eq_true hk
          exact says_arith h hd e e1 e2 ⟨h1, h2⟩
        · trivial
    · exact says_texts h hd e hx hy
    · rename_i sz n get
      split
      · rename_i hsl
        obtain ⟨el, hel⟩ : ∃ el, P.underlying t = some (.slice el) := by
          unfold isSl at hsl
          split at hsl
          · rename_i i hi
            have ok := (hT t i hi).k
            split at hsl
            · rename_i hk; rw [hk] at ok; exact ⟨_, ok.1⟩
            · cases hsl
          · cases hsl
        have key : nblt 0 n = true → (Op.equal t (a.eval x) (a.eval y)).run P w = .ok false w ∧ a.eval x ≠ .nilIface ∧ (∀ cs, a.eval x ≠ .agg cs) ∧ (∃ p q r, a.eval x = .slice p q r) ∧ ∃ p q r, a.eval y = .slice p q r := by
          intro hn
          have hn := blt_lt hn
          generalize a.eval x = u at hx
          generalize a.eval y = v at hy
          cases hy
          cases hx with
          | lst0 => omega
          | lst _ _ _ b o' cap vs =>
            refine ⟨?_, by simp, by simp, ⟨_, _, _, rfl⟩, ⟨_, _, _, rfl⟩⟩
            rw [equal_unfold, Op.equalIn]
            simp [run_underlying hel]
        split
        · intro hn
          obtain ⟨r1, r2, r3, ⟨p, q, r, hp⟩, ⟨p', q', r', hp'⟩⟩ := key hn
          refine adv_value h hd (u := .bool false) ?_ (.bool _)
          unfold execOp
          rw [e]
          rw [hp, hp'] at r1
          rw [hp] at r2 r3
          simp [eqGuard_plain .eql t x y _ (.slice p' q' r') r2 r3, binOp, hp, hp', r1]
        · intro hn
          obtain ⟨r1, r2, r3, ⟨p, q, r, hp⟩, ⟨p', q', r', hp'⟩⟩ := key hn
          refine adv_value h hd (u := .bool true) ?_ (.bool _)
          unfold execOp
          rw [e]
          rw [hp, hp'] at r1
          rw [hp] at r2 r3
          simp [eqGuard_plain .neq t x y _ (.slice p' q' r') r2 r3, binOp, hp, hp', r1]
        · trivial
      · trivial
    · have run : ∀ b op', (op' = .eql ∨ op' = .neq) → op = op' → alike T std t vx vy = some b → (execOp a.eval o).run P w = .ok (.value (.bool (if op' = .eql then b else !b))) w := by
        intro b op' hop hop2 hb
        obtain ⟨r1, r2, r3⟩ := alike_all hT hb hx hy
        subst hop2
        unfold execOp
        rw [e]
        rcases hop with rfl | rfl
        · simp [r1, r2]
        · simp [r1, r3]
      split
      · split
        · rename_i b hb
          exact adv_value h hd (run b .eql (.inl rfl) rfl hb) (.bool _)
        · trivial
      · split
        · rename_i b hb
          exact adv_value h hd (run b .neq (.inr rfl) rfl hb) (.bool _)
        · trivial
      · trivial


theorem says_binC (hT : TsOk P T) {op : BinOp} {t t' : TypeId} {x y : Operand} (e : o.op = .binOp op t x y t') {vals : List AV} (hv : Ops w.heap D μ a [x, y] vals) :
    Says P base M W nt f g c o a w (cBinC T std op t (cond (isCst x) true (isCst y)) vals) := by
  unfold cBinC
  split
  · obtain ⟨hx, hy, _⟩ := hv
    split
    · rename_i sz ag ze eqf p1 p2 p3 hc hi
      obtain ⟨ms, ok⟩ := (hT t _ hi).k
      have e1 : a.eval x = .nilIface := by generalize a.eval x = u at hx; cases hx; rfl
      have e2 : a.eval y = .nilIface := by generalize a.eval y = u at hy; cases hy; rfl
      have hg := eqGuard_nil (P := P) (w := w) op t hc
      have he : (Op.equal t .nilIface .nilIface).run P w = .ok true w := by
        rw [equal_unfold, Op.equalIn]
        simp [run_underlying ok]
      split
      · refine adv_value h hd (u := .bool true) ?_ (.bool _)
        unfold execOp
        rw [e]
        simp [e1, e2, hg, binOp, he]
      · refine adv_value h hd (u := .bool false) ?_ (.bool _)
        unfold execOp
        rw [e]
        simp [e1, e2, hg, binOp, he]
      · trivial
    · trivial
  · rename_i b
    obtain ⟨hx, hy, _⟩ := hv
    split
    · rename_i sz ag ze eqf p1 p2 p3 hc hi
      obtain ⟨ms, ok⟩ := (hT t _ hi).k
      have e2 : a.eval y = .nilIface := by generalize a.eval y = u at hy; cases hy; rfl
      obtain ⟨u, e1, hu, hb⟩ : ∃ u, a.eval x = u ∧ (u = .nilIface ∨ ∃ t p, u = .iface t p) ∧ ((Op.equal t u .nilIface).run P w = .ok b w) := by
        generalize a.eval x = u at hx
        cases hx with
        | ifn => exact ⟨_, rfl, .inl rfl, by rw [equal_unfold, Op.equalIn]; simp [run_underlying ok]⟩
        | ifs t' p => exact ⟨_, rfl, .inr ⟨t', p, rfl⟩, by rw [equal_unfold, Op.equalIn]; simp [run_underlying ok]⟩
      have hg := eqGuard_ifb (P := P) (w := w) op t hc u hu
      split
      · refine adv_value h hd (u := .bool b) ?_ (.bool _)
        unfold execOp
        rw [e]
        simp [e1, e2, hg, binOp, hb]
      · refine adv_value h hd (u := .bool (!b)) ?_ (.bool _)
        unfold execOp
        rw [e]
        simp [e1, e2, hg, binOp, hb]
      · trivial
    · trivial
  · exact says_bin h hd hT e hv
theorem says_len (hT : TsOk P T) {x : Operand} {t : Nat} {r : List Nat} {ts : Array TypeId} (hts : ts.toList = t :: r) (e : o.op = .call { callee := .builtin .len, args := #[x], argTypes := ts }) {vals : List AV}
    (hv : Ops w.heap D μ a [x] vals) : Says P base M W nt f g c o a w (cLen T std t vals) := by
  match vals, hv with
  | [v], ⟨hv, _⟩ =>
    have run : ∀ u, (Builtin.len_ ts o.type #[a.eval x]).run P w = .ok u w → (execOp a.eval o).run P w = .ok (.value u) w := by
      intro u hu
      unfold execOp
      rw [e]
      simp [resolve, invoke, builtin, hu]
    have h0 : ts[0]? = some t := by rw [← Array.getElem?_toList, hts]; rfl
    generalize a.eval x = u at *
    unfold cLen
    simp only
    split
    · rename_i i hi
      have ok := (hT _ i hi).k
      split
      · rename_i hk
        rw [hk] at ok
        split
        · rename_i l
          obtain ⟨s, rfl, rfl⟩ := hv.inv_str
          refine adv_value h hd (u := .int .i64 s.size) (run _ ?_) ?_
          · simp [Builtin.len_, h0, run_underlying ok]; rfl
          · have : std slen s.data.toList = (s.size : Int) := by simp [std, slen]
            rw [this]; exact .int _ _
        · trivial
      · rename_i e' esz eb hk
        rw [hk] at ok
        have ok := ok.1
        have slices : ∀ b n cap, u = .slice b n cap → Adv P base M W nt f g c o a w (.int .i64 (std natI n)) [] [] := by
          rintro b n cap rfl
          refine adv_value h hd (u := .int .i64 n) (run _ ?_) (.int _ _)
          simp [Builtin.len_, h0, run_underlying ok]; rfl
        split
        · cases hv <;> exact slices _ _ _ rfl
        · cases hv <;> exact slices _ _ _ rfl
        · cases hv; exact slices _ 0 _ rfl
        · cases hv; exact slices _ 0 _ rfl
        · cases hv; exact slices _ 0 _ rfl
        · trivial
      · rename_i n e' esz hk
        rw [hk] at ok
        have ok := ok.1
        refine adv_value h hd (u := .int .i64 n) (run _ ?_) (.int _ _)
        simp [Builtin.len_, h0, run_underlying ok]; rfl
      · trivial
    · trivial

theorem says_min {x y : Operand} {ts : Array TypeId} (e : o.op = .call { callee := .builtin .min, args := #[x, y], argTypes := ts }) {vals : List AV}
    (hv : Ops w.heap D μ a [x, y] vals) : Says P base M W nt f g c o a w (cMin std vals) := by
  match vals, hv with
  | [v, v'], ⟨hx, hy, _⟩ =>
    unfold cMin
    split
    · rename_i k m k' n he
      simp only [List.cons.injEq, and_true] at he
      obtain ⟨rfl, rfl⟩ := he
      split
      · rename_i hk
        obtain rfl : k = k' := of_decide_eq_true hk
        refine adv_value h hd (u := .int k (min m n)) ?_ (.int _ _)
        unfold execOp
        rw [e]
        have : (if n < m then n else m) = min m n := by rw [Int.min_def]; split <;> split <;> omega
        simp [resolve, invoke, builtin, Builtin.min_, hx.inv_int, hy.inv_int, Builtin.min2, this]
      · trivial
    · trivial
theorem says_max {x y : Operand} {ts : Array TypeId} (e : o.op = .call { callee := .builtin .max, args := #[x, y], argTypes := ts }) {vals : List AV}
    (hv : Ops w.heap D μ a [x, y] vals) : Says P base M W nt f g c o a w (cMax std vals) := by
  match vals, hv with
  | [v, v'], ⟨hx, hy, _⟩ =>
    unfold cMax
    split
    · rename_i k m k' n he
      simp only [List.cons.injEq, and_true] at he
      obtain ⟨rfl, rfl⟩ := he
      split
      · rename_i hk
        obtain rfl : k = k' := of_decide_eq_true hk
        refine adv_value h hd (u := .int k (max m n)) ?_ (.int _ _)
        unfold execOp
        rw [e]
        have : (if n > m then n else m) = max m n := by rw [Int.max_def]; split <;> split <;> omega
        simp [resolve, invoke, builtin, Builtin.max_, hx.inv_int, hy.inv_int, Builtin.max2, this]
      · trivial
    · trivial

theorem says_nil {x : Operand} (e : o.op = .nilCheck x) {vals : List AV} (hv : Ops w.heap D μ a [x] vals) : Says P base M W nt f g c o a w (cNil vals) := by
  match vals, hv with
  | [v], ⟨hv, _⟩ =>
    have run : ∀ ad, a.eval x = .pointer (some ad) → (execOp a.eval o).run P w = .ok (.value (.pointer (some ad))) w := by
      intro ad hu; unfold execOp; rw [e]; simp [hu]
    unfold cNil
    split
    · rename_i id off he
      simp only [List.cons.injEq, and_true] at he; subst he
      generalize hu : a.eval x = u at *
      have hv' := hv
      cases hv; exact adv_value h hd (run _ rfl) hv'
    · rename_i id sz i off he
      simp only [List.cons.injEq, and_true] at he; subst he
      generalize hu : a.eval x = u at *
      have hv' := hv
      cases hv; exact adv_value h hd (run _ rfl) hv'
    · rename_i n get he
      simp only [List.cons.injEq, and_true] at he; subst he
      generalize hu : a.eval x = u at *
      have hv' := hv
      cases hv; exact adv_value h hd (run _ rfl) hv'
    · trivial
end

end Sy
end Go.Proofs.YthlggigjnpldcaaDoor
