/- The symbolic executor: the operations that touch no block, one by one. -/
import Derived.Test.YtckbbcjbbmgmoaaDoorSyC
import Derived.Lib.IndexBytes
namespace Go.Proofs.YtckbbcjbbmgmoaaDoor
namespace Sy
open Go Go.RowKit
set_option linter.unusedSimpArgs false
set_option linter.unusedVariables false

/-- A call of one function is on its way: what becomes of it. -/
def CallTo (P : Program) (f : FuncId) (args : Array Value) (w : World) (Q : Ending → World → Prop) : Prop :=
  match (callFunc f args).run P w with
  | .ok (.enter f' args') w' => Calls P f' args' w' Q
  | .ok (.value v) w' => Q (.returned v) w'
  | _ => False
/-- The function answers r of xs: nothing that was there turns. -/
def ACalls (P : Program) (f : FuncId) (xs : List AV) (r : AV) : Prop :=
  ∀ (D : Nat → Prop) (w : World) (vs : Array Value), (∀ b, D b → b < w.heap.size) → RL w.heap D noMu xs vs → GOk w →
    CallTo P f vs w fun e w' => ∃ v D', e = .returned v ∧ Below w.heap.size w w' ∧ (∀ b, D b → D' b) ∧ (∀ b, D' b → D b ∨ (w.heap.size ≤ b ∧ b < w'.heap.size)) ∧ R w'.heap D' noMu r v

def SimE (base : Nat) (M : Two) (W : World) (nt : Nat) (f : Nat → Option AV) (g : Nat → Option Ob) (c : Nat → Bool) (a : Act) (w : World) : Prop := ∃ D μ, Sim base M W nt f g c a w D μ
def Adv (P : Program) (base : Nat) (M : Two) (W : World) (nt : Nat) (f : Nat → Option AV) (g : Nat → Option Ob) (c : Nat → Bool) (o : Oper) (a : Act) (w : World) (v : AV) (os : List (Nat × Ob)) (ice : List Nat) : Prop :=
  ∀ (K : Act → World → Prop) (Q : Exit → Act → World → Prop), (∀ a' w', SimE base M W nt (fput f o.dst v) (gput g os) (cput c ice) a' w' → K a' w') → o.wp P a w K Q
/-- The executor's word on an operation holds. -/
def Says (P : Program) (base : Nat) (M : Two) (W : World) (nt : Nat) (f : Nat → Option AV) (g : Nat → Option Ob) (c : Nat → Bool) (o : Oper) (a : Act) (w : World) : Act1 → Prop
  | .ok v os ice => Adv P base M W nt f g c o a w v os ice
  | .okIf b v os ice => b = true → Adv P base M W nt f g c o a w v os ice
  | .okP p v os ice => p → Adv P base M W nt f g c o a w v os ice
  | .call k xs ice => ∀ r, ACalls P k xs r → Adv P base M W nt f g c o a w r [] ice
  | .bad _ => True

theorem toInt_nat (i : Int) (h : 0 ≤ i) : ((i.toNat : Nat) : Int) = i := Int.toNat_of_nonneg h

section
variable {P : Program} {T : TT} {base : Nat} {M : Two} {W : World} {nt : Nat} {f : Nat → Option AV} {g : Nat → Option Ob} {c : Nat → Bool} {a : Act} {w : World} {D : Nat → Prop} {μ : Mu} {o : Oper}

theorem adv_value (h : Sim base M W nt f g c a w D μ) (hd : ∀ d, o.dst = some d → d < nt) {v : AV} {u : Value} (hr : (execOp a.eval o).run P w = .ok (.value u) w) (r : R w.heap D μ v u) :
    Adv P base M W nt f g c o a w v [] [] := fun K Q hK => by
  unfold Oper.wp
  rw [hr]
  exact hK _ _ ⟨D, μ, h.put hd r⟩

/-- What the operands say. -/
def Ops (h : Array Obj) (D : Nat → Prop) (μ : Mu) (a : Act) : List Operand → List AV → Prop
  | [], [] => True
  | x :: xs, v :: vs => R h D μ v (a.eval x) ∧ Ops h D μ a xs vs
  | _, _ => False

theorem ofV_R (h : Array Obj) (D : Nat → Prop) (μ : Mu) (v : Value) : R h D μ (ofV v) v := by
  unfold ofV
  split
  · exact .bool _
  · exact .int _ _
  · exact .str _ _ rfl
  · exact .nilp
  · exact .nilm
  · exact .nilf
  · exact .nili
  · split
    · exact .nils
    · exact .dead _
  · rename_i k xs ys
    cases hx : xs.toList with
    | cons _ _ => exact .dead _
    | nil =>
      simp only
      cases hy : ys.toList with
      | cons _ _ => exact .dead _
      | nil =>
        have h1 : xs = #[] := by simpa using hx
        have h2 : ys = #[] := by simpa using hy
        subst h1; subst h2
        exact .fn k [] [] #[] #[] rfl rfl (fun i x v h => by simp at h) (fun i x v h => by simp at h)
  · exact .dead _
theorem lmap_map {α β : Type} (k : α → β) : ∀ l, lmap k l = l.map k
  | [] => rfl
  | x :: xs => by simp [lmap, lmap_map k xs]
/-- Constants whose cells are no structs. -/
def plainC : Value → Bool
  | .agg cs => cs.toList.all Value.oneCell'
  | _ => true
theorem ofVs_R (h : Array Obj) (D : Nat → Prop) (μ : Mu) (v : Value) (hp : plainC v = true) : R h D μ (ofVs v) v := by
  unfold ofVs
  split
  · rename_i cs
    refine .agg _ _ (by simp [lmap_map]) (fun i v hv => ?_) (fun i x v hx hv => ?_)
    · simp only [plainC, List.all_eq_true] at hp
      exact hp v (List.mem_of_getElem? (i := i) (by simpa using hv))
    · simp [lmap_map] at hx
      rw [hv] at hx
      simp at hx
      subst hx
      exact ofV_R _ _ _ _
  · exact ofV_R _ _ _ _
theorem evf_R (h : Sim base M W nt f g c a w D μ) {kn : List (Nat × Bool)} (hk : ∀ t b, aget kn t = some b → f t = some (.bool b)) (x : Operand) (hx : ∀ v, x = .const v → plainC v = true) : R w.heap D μ (evf f kn x) (a.eval x) := by
  unfold evf
  cases x with
  | tmp t =>
    simp only
    cases e : aget kn t with
    | some b => exact h.slots t _ (hk t b e)
    | none =>
      simp only
      cases e' : f t with
      | none => exact .dead _
      | some v => exact h.slots t v e'
  | const v => exact ofVs_R _ _ _ _ (hx v rfl)
  | global n => exact .dead _
  | func n => exact .fn n [] [] #[] #[] rfl rfl (fun i x v h => by simp at h) (fun i x v h => by simp at h)

theorem bytes_eq {s t : ByteArray} : (s.toList == t.toList) = (s.data.toList == t.data.toList) := by rw [Lib.toList_data, Lib.toList_data]
theorem llen_eq {α : Type} : ∀ l : List α, llen l = l.length
  | [] => rfl
  | x :: xs => by simp [llen, llen_eq xs]
theorem blt_lt {a b : Nat} (h : nblt a b = true) : a < b := of_decide_eq_true h
theorem ble_le {a b : Nat} (h : nble a b = true) : a ≤ b := of_decide_eq_true h
theorem lget_eq {α : Type} (d : α) : ∀ (l : List α) (i : Nat), lget d l i = l.getD i d
  | [], _ => by simp [lget]
  | x :: _, 0 => by simp [lget]
  | x :: xs, i + 1 => by simp [lget, lget_eq d xs i]
theorem lget_get {α : Type} (d : α) (l : List α) (i : Nat) (h : i < l.length) : l[i]? = some (lget d l i) := by
  rw [lget_eq]; simp [List.getD, h]
theorem ltake_eq {α : Type} : ∀ (l : List α) (n : Nat), ltake l n = l.take n
  | [], 0 => rfl
  | [], n + 1 => rfl
  | x :: xs, 0 => rfl
  | x :: xs, n + 1 => by simp [ltake, ltake_eq xs n]
theorem ldrop_eq {α : Type} : ∀ (l : List α) (n : Nat), ldrop l n = l.drop n
  | [], 0 => rfl
  | [], n + 1 => rfl
  | x :: xs, 0 => rfl
  | x :: xs, n + 1 => by simp [ldrop, ldrop_eq xs n]
theorem lapp_eq {α : Type} : ∀ (l m : List α), lapp l m = l ++ m
  | [], m => rfl
  | x :: xs, m => by simp [lapp, lapp_eq xs m]
theorem lset_eq {α : Type} (v : α) : ∀ (l : List α) (n : Nat), lset v l n = l.set n v
  | [], n => by simp [lset]
  | x :: xs, 0 => rfl
  | x :: xs, n + 1 => by simp [lset, lset_eq v xs n]

/-! Inversions -/
theorem R.inv_tup {h : Array Obj} {D : Nat → Prop} {μ : Mu} {cs : List AV} {v : Value} (r : R h D μ (.tup cs) v) : ∃ us, v = .tuple us ∧ RL h D μ cs us := by
  cases r with | tup _ us e hr => exact ⟨us, rfl, e, hr⟩
theorem R.inv_agg {h : Array Obj} {D : Nat → Prop} {μ : Mu} {cs : List AV} {v : Value} (r : R h D μ (.agg cs) v) : ∃ us, v = .agg us ∧ ones us ∧ RL h D μ cs us := by
  cases r with | agg _ us e h1 hr => exact ⟨us, rfl, h1, e, hr⟩
theorem R.inv_bool {h : Array Obj} {D : Nat → Prop} {μ : Mu} {b : Bool} {v : Value} (r : R h D μ (.bool b) v) : v = .bool b := by cases r; rfl
theorem R.inv_int {h : Array Obj} {D : Nat → Prop} {μ : Mu} {k : IntKind} {n : Int} {v : Value} (r : R h D μ (.int k n) v) : v = .int k n := by cases r; rfl
theorem R.inv_str {h : Array Obj} {D : Nat → Prop} {μ : Mu} {l : List UInt8} {v : Value} (r : R h D μ (.str l) v) : ∃ s, v = .string s ∧ s.data.toList = l := by cases r with | str l s e => exact ⟨s, rfl, e⟩

variable (h : Sim base M W nt f g c a w D μ) (hd : ∀ d, o.dst = some d → d < nt)
include h hd

theorem says_move {x : Operand} (e : o.op = .move x ∨ o.op = .assign x) {vals : List AV} (hv : Ops w.heap D μ a [x] vals) : Says P base M W nt f g c o a w (cMove vals) := by
  match vals, hv with
  | [v], hv =>
    refine adv_value h hd (u := a.eval x) ?_ hv.1
    rcases e with e | e <;> (unfold execOp; rw [e]; rfl)
theorem says_pick {b x y : Operand} (e : o.op = .pick b x y) {vals : List AV} (hv : Ops w.heap D μ a [b, x, y] vals) : Says P base M W nt f g c o a w (cPick vals) := by
  match vals, hv with
  | [vb, vx, vy], ⟨h1, h2, h3, _⟩ =>
    unfold cPick
    split
    · rename_i t x' y' he
      simp only [List.cons.injEq, and_true] at he
      obtain ⟨rfl, rfl, rfl⟩ := he
      have hb := h1.inv_bool
      cases t with
      | true => exact adv_value h hd (u := a.eval x) (by unfold execOp; rw [e]; simp [hb, asBool]) h2
      | false => exact adv_value h hd (u := a.eval y) (by unfold execOp; rw [e]; simp [hb, asBool]) h3
    · trivial

theorem says_arith {op : BinOp} {t t' : TypeId} {x y : Operand} (e : o.op = .binOp op t x y t') {k : IntKind} {m n : Int} (h1 : a.eval x = .int k m) (h2 : a.eval y = .int k n) (hs : op ≠ .shl ∧ op ≠ .shr) :
    Says P base M W nt f g c o a w (arith std op k m n) := by
  have run : ∀ u, (binOp op t (.int k m) (.int k n)).run P w = .ok u w → (execOp a.eval o).run P w = .ok (.value u) w := by
    intro u hu
    unfold execOp
    rw [e]
    simp only [h1, h2]
    have hg : (eqGuard op t x y (.int k m) (.int k n)).run P w = .ok () w := by
      unfold eqGuard; split <;> rfl
    simp [hg, hu]
  have res : ∀ v : AV, ∀ u : Value, (binOp op t (.int k m) (.int k n)).run P w = .ok u w → R w.heap D μ v u → Adv P base M W nt f g c o a w v [] [] := fun v u hu r => adv_value h hd (run u hu) r
  have hq : L2 std ine n 0 = true → n ≠ 0 := fun hb => by simpa [L2, std, ine] using hb
  cases op with
  | shl => exact absurd rfl hs.1
  | shr => exact absurd rfl hs.2
  | quo => exact fun hb => res _ (.int k (k.wrap (m.tdiv n))) (by simp [binOp, Op.intDiv, hq hb]) (.int _ _)
  | rem => exact fun hb => res _ (.int k (m.tmod n)) (by simp [binOp, Op.intDiv, hq hb]) (.int _ _)
  | add => exact res _ (.int k (k.wrap (m + n))) (by simp [binOp]; rfl) (.int _ _)
  | sub => exact res _ (.int k (k.wrap (m - n))) (by simp [binOp]; rfl) (.int _ _)
  | mul => exact res _ (.int k (k.wrap (m * n))) (by simp [binOp]; rfl) (.int _ _)
  | and => exact res _ (.int k (band k m n)) (by simp [binOp]; rfl) (.int _ _)
  | or => exact res _ (.int k (bor k m n)) (by simp [binOp]; rfl) (.int _ _)
  | xor => exact res _ (.int k (bxor k m n)) (by simp [binOp]; rfl) (.int _ _)
  | andNot => exact res _ (.int k (bandn k m n)) (by simp [binOp]; rfl) (.int _ _)
  | eql => exact res _ (.bool (ieq m n)) (by simp [binOp]; rfl) (.bool _)
  | neq => exact res _ (.bool (ine m n)) (by simp [binOp]; rfl) (.bool _)
  | lss => exact res _ (.bool (ilt m n)) (by simp [binOp]; rfl) (.bool _)
  | leq => exact res _ (.bool (ile m n)) (by simp [binOp]; rfl) (.bool _)
  | gtr => exact res _ (.bool (ilt n m)) (by simp [binOp]; rfl) (.bool _)
  | geq => exact res _ (.bool (ile n m)) (by simp [binOp]; rfl) (.bool _)

theorem says_texts {op : BinOp} {t t' : TypeId} {x y : Operand} (e : o.op = .binOp op t x y t') {l m : List UInt8} (h1 : R w.heap D μ (.str l) (a.eval x)) (h2 : R w.heap D μ (.str m) (a.eval y)) :
    Says P base M W nt f g c o a w (texts std op l m) := by
  obtain ⟨s1, e1, rfl⟩ := h1.inv_str
  obtain ⟨s2, e2, rfl⟩ := h2.inv_str
  have run : ∀ u, (binOp op t (.string s1) (.string s2)).run P w = .ok u w → (execOp a.eval o).run P w = .ok (.value u) w := by
    intro u hu
    unfold execOp
    rw [e]
    simp only [e1, e2]
    have hg : (eqGuard op t x y (.string s1) (.string s2)).run P w = .ok () w := by
      unfold eqGuard; split <;> rfl
    simp [hg, hu]
  have res : ∀ v : AV, ∀ u : Value, (binOp op t (.string s1) (.string s2)).run P w = .ok u w → R w.heap D μ v u → Adv P base M W nt f g c o a w v [] [] := fun v u hu r => adv_value h hd (run u hu) r
  cases op with
  | add =>
    intro hb
    have hl : s1.size + s2.size ≤ 9223372036854775807 := by
      have h1 := of_decide_eq_true hb
      simpa using h1
    refine res _ (.string (s1 ++ s2)) ?_ (.str _ _ ?_)
    · have : ¬ (((s1.size + s2.size : Nat) : Int) > IntKind.i64.max) := by rw [show IntKind.i64.max = 9223372036854775807 from rfl]; omega
      simp only [binOp, Op.stringOp]
      rw [if_neg this]
      rfl
    · simp [L2, std, scat]
  | eql => exact res _ (.bool (s1.toList == s2.toList)) (by simp [binOp, Op.stringOp]) (by rw [bytes_eq]; exact .bool _)
  | neq => exact res _ (.bool (!(s1.toList == s2.toList))) (by simp [binOp, Op.stringOp]) (by rw [bytes_eq]; exact .bool _)
  | lss => exact res _ (.bool (Op.bytesLess s1.toList s2.toList)) (by simp [binOp, Op.stringOp]) (by simp only [Lib.toList_data]; exact .bool _)
  | leq => exact res _ (.bool (Op.bytesLess s1.toList s2.toList || (s1.toList == s2.toList))) (by simp [binOp, Op.stringOp]) (by simp only [Lib.toList_data]; exact .bool _)
  | gtr => exact res _ (.bool (!(Op.bytesLess s1.toList s2.toList || (s1.toList == s2.toList)))) (by simp [binOp, Op.stringOp]) (by simp only [Lib.toList_data]; exact .bool _)
  | geq => exact res _ (.bool (!(Op.bytesLess s1.toList s2.toList))) (by simp [binOp, Op.stringOp]) (by simp only [Lib.toList_data]; exact .bool _)
  | _ => trivial

theorem says_un {op : UnOp} {t : TypeId} {x : Operand} (e : o.op = .unOp op t x) {vals : List AV} (hv : Ops w.heap D μ a [x] vals) : Says P base M W nt f g c o a w (cUn std op vals) := by
  match vals, hv with
  | [v], ⟨hv, _⟩ =>
    have res : ∀ v' : AV, ∀ u : Value, (Op.unary op (a.eval x)).run P w = .ok u w → R w.heap D μ v' u → Adv P base M W nt f g c o a w v' [] [] := fun v' u hu r =>
      adv_value h hd (by unfold execOp; rw [e]; simp [hu]) r
    simp only [cUn]
    unfold un
    split
    · rename_i b
      have := hv.inv_bool
      exact res _ (.bool (!b)) (by rw [this]; rfl) (.bool _)
    · rename_i k n
      have := hv.inv_int
      exact res _ (.int k (k.wrap (0 - n))) (by rw [this]; rfl) (.int _ _)
    · rename_i k n
      have := hv.inv_int
      cases hk : k.signed with
      | true => exact res _ (.int k (bxor k (-1) n)) (by rw [this]; simp only [Op.unary, hk]; rfl) (.int _ _)
      | false => exact res _ (.int k (bxor k k.max n)) (by rw [this]; simp only [Op.unary, hk]; rfl) (.int _ _)
    · trivial

theorem says_extract {i : Nat} {x : Operand} (e : o.op = .extract x i) {vals : List AV} (hv : Ops w.heap D μ a [x] vals) : Says P base M W nt f g c o a w (cExtract i vals) := by
  match vals, hv with
  | [v], ⟨hv, _⟩ =>
    unfold cExtract
    split
    · rename_i vs he
      simp only [List.cons.injEq, and_true] at he
      subst he
      split
      · rename_i hlt
        obtain ⟨us, hu, e1, hr⟩ := hv.inv_tup
        have hl : i < vs.length := by rw [← llen_eq]; exact blt_lt hlt
        have h1 : us[i]? = some (us[i]'(by omega)) := by simp [e1 ▸ hl]
        refine adv_value h hd (u := us[i]'(by omega)) ?_ (hr i _ _ (lget_get AV.dead vs i hl) h1)
        unfold execOp; rw [e]; simp [hu, Instr.extract, h1]
      · trivial
    · trivial
end

end Sy
end Go.Proofs.YtckbbcjbbmgmoaaDoor
