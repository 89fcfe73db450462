/- The symbolic executor: maps. -/
import Derived.Test.YtckbbcjbbmgmoaaDoorSyL
namespace Go.Proofs.YtckbbcjbbmgmoaaDoor
namespace Sy
open Go Go.RowKit
set_option linter.unusedSimpArgs false
set_option linter.unusedVariables false

theorem KyIs.eq {kk : KK} {v : Value} {k k' : Ky} (h : KyIs kk v k) (h' : KyIs kk v k') : k = k' := by
  cases kk with
  | i ik => obtain ⟨n, rfl, rfl⟩ := h; obtain ⟨n', e, rfl⟩ := h'; cases e; rfl
  | s => obtain ⟨n, rfl, rfl⟩ := h; obtain ⟨n', e, rfl⟩ := h'; cases e; rfl
  | a ks =>
    obtain ⟨l, e1, rfl, rfl⟩ := h; obtain ⟨l', e1', e, rfl⟩ := h'
    congr 1
    have e : ks.zip l = ks.zip l' := by
      have e := congrArg Array.toList (Value.agg.inj e)
      simp only [List.toList_toArray] at e
      refine List.map_inj_right (f := fun x : IntKind × Int => Value.int x.1 x.2) (fun x y hxy => ?_) |>.1 e
      obtain ⟨x1, x2⟩ := x
      obtain ⟨y1, y2⟩ := y
      simp only [Value.int.injEq] at hxy
      rw [hxy.1, hxy.2]
    have := congrArg (List.map Prod.snd) e
    rwa [List.map_snd_zip (by omega), List.map_snd_zip (by omega)] at this
  | no => cases h
theorem KyIs.val {kk : KK} {v v' : Value} {k : Ky} (h : KyIs kk v k) (h' : KyIs kk v' k) : v = v' := by
  cases kk with
  | i ik => obtain ⟨n, rfl, rfl⟩ := h; obtain ⟨n', rfl, e⟩ := h'; cases e; rfl
  | s =>
    obtain ⟨n, rfl, rfl⟩ := h; obtain ⟨n', rfl, e⟩ := h'
    have e := Ky.s.inj e
    congr 1
    exact ByteArray.ext (Array.ext' e)
  | a ks =>
    obtain ⟨l, e1, rfl, rfl⟩ := h; obtain ⟨l', e1', rfl, e⟩ := h'
    cases e; rfl
  | no => cases h
/-- Keys of one cell. -/
def plainK : KK → Bool
  | .i _ => true
  | .s => true
  | _ => false
theorem kkOk_ok {a b : KK} (e : kkOk a b = true) : a = b ∧ plainK b = true := by
  unfold kkOk at e
  split at e
  · obtain rfl := of_decide_eq_true e; exact ⟨rfl, rfl⟩
  · exact ⟨rfl, rfl⟩
  · cases e
theorem keyIs {h : Array Obj} {D : Nat → Prop} {μ : Mu} {kk : KK} {x : AV} {v : Value} {k : Ky} (e : keyOf kk x = some k) (r : R h D μ x v) : KyIs kk v k := by
  unfold keyOf at e
  split at e
  · split at e
    · rename_i hk
      obtain rfl := of_decide_eq_true hk
      cases e; cases r; exact ⟨_, rfl, rfl⟩
    · cases e
  · cases e
    cases r with | str _ s q => subst q; exact ⟨s, rfl, rfl⟩
  · rename_i ks cs
    split at e
    · rename_i l hl
      cases e
      obtain ⟨us, rfl, o1, r1⟩ := r.inv_agg
      have key : ∀ (ks : List IntKind) (cs : List AV) (l : List Int) (us : List Value), intsOf ks cs = some l → cs.length = us.length → (∀ (i : Nat) x v, cs[i]? = some x → us[i]? = some v → R h D μ x v) →
          l.length = ks.length ∧ us = (ks.zip l).map fun x => Value.int x.1 x.2 := by
        intro ks
        induction ks with
        | nil =>
          intro cs l us e1 e2 _
          cases cs with
          | nil => cases e1; cases us with | nil => exact ⟨rfl, rfl⟩ | cons _ _ => simp at e2
          | cons _ _ => simp [intsOf] at e1
        | cons k ks ih =>
          intro cs l us e1 e2 hr
          cases cs with
          | nil => simp [intsOf] at e1
          | cons c cs =>
            cases us with
            | nil => simp at e2
            | cons u us =>
              unfold intsOf at e1
              split at e1
              · rename_i q1 q2; cases q1
              · rename_i k2 ks2 k' n xs q1 q2
                cases q1; cases q2
                split at e1
                · rename_i hk
                  obtain rfl := of_decide_eq_true hk
                  split at e1
                  · rename_i l' hl'
                    cases e1
                    obtain ⟨i1, i2⟩ := ih cs l' us hl' (by simpa using e2) (fun i x v h1 h2 => hr (i + 1) x v (by simpa using h1) (by simpa using h2))
                    have h0 := hr 0 _ _ rfl rfl
                    have h0 := h0.inv_int
                    exact ⟨by simp [i1], by simp [i2, h0]⟩
                  · cases e1
                · cases e1
              · cases e1
      obtain ⟨k1, k2⟩ := key ks cs l us.toList hl (by rw [r1.1]; simp) (fun i x v h1 h2 => r1.2 i x v h1 (by simpa using h2))
      refine ⟨l, k1, ?_, rfl⟩
      rw [← k2]
    · cases e
  · cases e

theorem selL_get (c : Bool) : ∀ (xs ys : List AV) (i : Nat), xs.length = ys.length → (selL std c xs ys)[i]? = match xs[i]?, ys[i]? with | some x, some y => some (sel1 std c x y) | _, _ => none
  | [], [], i, _ => by simp [selL]
  | x :: xs, y :: ys, 0, _ => by simp [selL]
  | x :: xs, y :: ys, i + 1, e => by simp [selL, selL_get c xs ys i (by simpa using e)]
theorem selL_len (c : Bool) : ∀ (xs ys : List AV), xs.length = ys.length → (selL std c xs ys).length = xs.length
  | [], [], _ => by simp [selL]
  | x :: xs, y :: ys, e => by simp [selL, selL_len c xs ys (by simpa using e)]
theorem selV_true {h : Array Obj} {D : Nat → Prop} {μ : Mu} {x : AV} {v : Value} (r : R h D μ x v) (y : AV) : R h D μ (selV std true x y) v := by
  unfold selV
  split
  · rename_i xs ys
    split
    · rename_i hl
      have hl := beq_eq hl
      rw [llen_eq, llen_eq] at hl
      obtain ⟨us, rfl, o1, r1⟩ := r.inv_agg
      refine .agg _ _ (by rw [selL_len _ _ _ hl, r1.1]) o1 (fun i z u hz hu => ?_)
      rw [selL_get _ _ _ _ hl] at hz
      split at hz
      · rename_i x y hx hy
        cases hz
        exact sel1_true (r1.2 i x u hx hu) y
      · cases hz
    · exact .dead _
  · exact sel1_true r _
theorem selV_false {h : Array Obj} {D : Nat → Prop} {μ : Mu} {y : AV} {v : Value} (r : R h D μ y v) (x : AV) : R h D μ (selV std false x y) v := by
  unfold selV
  split
  · rename_i xs ys
    split
    · rename_i hl
      have hl := beq_eq hl
      rw [llen_eq, llen_eq] at hl
      obtain ⟨us, rfl, o1, r1⟩ := r.inv_agg
      refine .agg _ _ (by rw [selL_len _ _ _ hl, hl, r1.1]) o1 (fun i z u hz hu => ?_)
      rw [selL_get _ _ _ _ hl] at hz
      split at hz
      · rename_i x y hx hy
        cases hz
        exact sel1_false (r1.2 i y u hy hu) x
      · cases hz
    · exact .dead _
  · exact sel1_false r _

/-- What a map holds, in the world. -/
def MapIs (h : Array Obj) (D : Nat → Prop) (kk : KK) (n : Nat) (has : Ky → Bool) (val : Ky → AV) (b : Nat) (es : Array MapEntry) (clock : Nat) (kf : Nat → Ky) : Prop :=
  h[b]? = some (.map es clock) ∧ es.size = n ∧ KeysOk kk has es clock kf ∧ ∀ (i : Nat) e, es[i]? = some e → R h D noMu (val (kf i)) e.val

section
variable {P : Program} {T : TT} {base : Nat} {M : Two} {W : World} {nt : Nat} {f : Nat → Option AV} {g : Nat → Option Ob} {c : Nat → Bool} {a : Act} {w : World} {D : Nat → Prop} {μ : Mu} {o : Oper}

/-- The key type's word: keys of one cell are found at once. -/
theorem kk_plain (hT : TsOk P T) {kt : Nat} (hp : plainK (kkOf T kt) = true) : (∃ k, kkOf T kt = .i k ∧ P.underlying kt = some (.int k)) ∨ kkOf T kt = .s ∧ P.underlying kt = some .string := by
  cases hf : T.find kt with
  | none => simp [kkOf, hf, plainK] at hp
  | some i =>
    have hk := (hT _ _ hf).k
    cases hik : i.k with
    | int k => rw [hik] at hk; exact .inl ⟨k, by simp [kkOf, hf, hik], hk⟩
    | str => rw [hik] at hk; exact .inr ⟨by simp [kkOf, hf, hik], hk⟩
    | _ =>
      exfalso
      simp only [kkOf, hf, hik] at hp
      split at hp <;> cases hp
theorem kk_desc (hT : TsOk P T) {kt : Nat} {v : Value} {k : Ky} (h : KyIs (kkOf T kt) v k) (hp : plainK (kkOf T kt) = true) : ∃ d, P.underlying kt = some d ∧ MapKept.IsKey d v ∧ ∀ v' k', KyIs (kkOf T kt) v' k' → MapKept.IsKey d v' := by
  rcases kk_plain hT hp with ⟨ik, e, hu⟩ | ⟨e, hu⟩
  · rw [e] at h ⊢
    refine ⟨_, hu, ?_, ?_⟩
    · obtain ⟨n, rfl, _⟩ := h; rfl
    · rintro v' k' ⟨n, rfl, _⟩; rfl
  · rw [e] at h ⊢
    refine ⟨_, hu, ?_, ?_⟩
    · obtain ⟨n, rfl, _⟩ := h; trivial
    · rintro v' k' ⟨n, rfl, _⟩; trivial

/-- A key is looked for among a map's entries. -/
theorem find_run (hT : TsOk P T) {kt : Nat} {has : Ky → Bool} {es : Array MapEntry} {clock : Nat} {kf : Nat → Ky} (ok : KeysOk (kkOf T kt) has es clock kf) {v : Value} {k : Ky} (hk : KyIs (kkOf T kt) v k) (hp : plainK (kkOf T kt) = true) (w : World) :
    (∀ b, (Instr.checkKey b 10000 kt v).run P w = .ok () w) ∧ (Instr.keyThatStays v v).run P w = .ok v w ∧
    ((has k = false ∧ (Instr.findKey kt v es.toList).run P w = .ok none w ∧ ∀ x ∈ es.toList, x.key ≠ v) ∨
      ∃ j e, has k = true ∧ kf j = k ∧ es[j]? = some e ∧ e.key = v ∧ (Instr.findKey kt v es.toList).run P w = .ok (some (j, e.val)) w) := by
  obtain ⟨d, hd, h1, h2⟩ := kk_desc hT hk hp
  refine ⟨fun b => MapKept.run_checkKey hd h1 b 9999, MapKept.run_keyThatStays h1, ?_⟩
  rcases MapKept.findNow_spec h1 es.toList 0 (fun x hx => by
    obtain ⟨i, hi⟩ := List.getElem?_of_mem hx
    exact h2 _ _ (ok.key i x (by simpa using hi)).1) with ⟨f1, f2⟩ | ⟨j, e, f1, f2, f3⟩
  · refine .inl ⟨?_, MapKept.run_findKey hd f1, f2⟩
    cases hh : has k with
    | false => rfl
    | true =>
      obtain ⟨i, hi, he⟩ := ok.all k hh
      have := (ok.key i es[i] (by simp [hi])).1
      rw [he] at this
      exact absurd (this.val hk) (f2 _ (by simp))
  · have f2 : es[j]? = some e := by simpa using f2
    have := ok.key j e f2
    rw [f3] at this
    have hkk := this.1.eq hk
    exact .inr ⟨j, e, by rw [← hkk]; exact this.2, hkk, f2, f3, by rw [MapKept.run_findKey hd f1, Nat.zero_add]⟩

variable (h : Sim base M W nt f g c a w D μ) (hd : ∀ d, o.dst = some d → d < nt)
include h hd

theorem says_make (hT : TsOk P T) {t : TypeId} (e : o.op = .makeMap t none) : Says P base M W nt f g c o a w (cMake T o.dst t (newOf g o.op o.dst)) := by
  unfold cMake
  split
  · rename_i d hc
    obtain ⟨hn, hdst⟩ := cond_some hc
    have hnew : g d = none := by
      simp only [newOf, e, creates, hdst] at hn
      cases hg : g d with
      | none => rfl
      | some _ => rw [hg] at hn; cases hn
    split
    · rename_i sz ag ze kt et eqf p1 p2 p3 hi
      have run : (execOp a.eval o).run P w = .ok (.value (.map (some w.heap.size))) (w.alloc (.map #[] 0)) := by
        unfold execOp
        rw [e]
        simp [Instr.makeMap]
      intro K Q hK
      unfold Oper.wp
      rw [run]
      have h1 := h.newO (hd _ hdst) hnew (.map (kkOf T kt) 0 (fun _ => false) (fun _ => .dead)) (.map #[] 0) 0 0 (by simp)
        ⟨#[], 0, fun _ => .i 0, heap_alloc_new _ _, rfl, ⟨fun i x hx => (by simp at hx), fun k hk => (by cases hk), MapKept.stamped_empty 0⟩, fun i x hx => (by simp at hx)⟩
      exact hK _ _ ⟨_, _, h1.put hd (.mp _ _ 0 0 (by simp))⟩
    · trivial
  · trivial

omit hd in
theorem mapOf_is {ob : Nat → Option Ob} (hob : ∀ id z, ob id = some z → g id = some z) {m : AV} {kk : KK} {n : Nat} {has : Ky → Bool} {val : Ky → AV} (e : mapOf ob m = some (kk, n, has, val)) {v : Value} (r : R w.heap D μ m v) :
    ∃ b es clock kf, v = .map (some b) ∧ MapIs w.heap D kk n has val b es clock kf := by
  unfold mapOf at e
  split at e
  · rename_i id
    split at e
    · rename_i hg
      cases e
      cases r with
      | mp _ b z m hμ =>
        obtain ⟨es, clock, kf, hh⟩ := h.obs id _ _ (hob _ _ hg) hμ
        exact ⟨b, es, clock, kf, rfl, hh⟩
    · cases e
  · cases e
    cases r with
    | mpi _ _ _ _ b es clock kf hD hb hn hk hr => exact ⟨b, es, clock, kf, rfl, hb, hn, hk, hr⟩
  · cases e

theorem says_len (hT : TsOk P T) {x : Operand} {t : Nat} {r : List Nat} {ts : Array TypeId} (hts : ts.toList = t :: r) (e : o.op = .call { callee := .builtin .len, args := #[x], argTypes := ts }) {vals : List AV}
    (hv : Ops w.heap D μ a [x] vals) {ob : Nat → Option Ob} (hob : ∀ id z, ob id = some z → g id = some z) : Says P base M W nt f g c o a w (cLen T std t ob vals) := by
  match vals, hv with
  | [v], ⟨hv, _⟩ =>
    have run : ∀ u, (Builtin.len_ ts o.type #[a.eval x]).run P w = .ok u w → (execOp a.eval o).run P w = .ok (.value u) w := by
      intro u hu
      unfold execOp
      rw [e]
      simp [resolve, invoke, builtin, hu]
    have h0 : ts[0]? = some t := by rw [← Array.getElem?_toList, hts]; rfl
    generalize a.eval x = u at *
    unfold cLen
    simp only
    split
    · rename_i i hi
      have ok := (hT _ i hi).k
      split
      · rename_i hk
        rw [hk] at ok
        split
        · rename_i l
          obtain ⟨s, rfl, rfl⟩ := hv.inv_str
          refine adv_value h hd (u := .int .i64 s.size) (run _ ?_) ?_
          · simp [Builtin.len_, h0, run_underlying ok]; rfl
          · have : std slen s.data.toList = (s.size : Int) := by simp [std, slen]
            rw [this]; exact .int _ _
        · trivial
      · rename_i e' esz eb hk
        rw [hk] at ok
        have ok := ok.1
        have slices : ∀ b n cap, u = .slice b n cap → Adv P base M W nt f g c o a w (.int .i64 (std natI n)) [] [] := by
          rintro b n cap rfl
          refine adv_value h hd (u := .int .i64 n) (run _ ?_) (.int _ _)
          simp [Builtin.len_, h0, run_underlying ok]; rfl
        split
        · cases hv <;> exact slices _ _ _ rfl
        · cases hv <;> exact slices _ _ _ rfl
        · cases hv; exact slices _ 0 _ rfl
        · cases hv; exact slices _ 0 _ rfl
        · cases hv; exact slices _ 0 _ rfl
        · trivial
      · rename_i n e' esz hk
        rw [hk] at ok
        have ok := ok.1
        refine adv_value h hd (u := .int .i64 n) (run _ ?_) (.int _ _)
        simp [Builtin.len_, h0, run_underlying ok]; rfl
      · rename_i kt et hk
        rw [hk] at ok
        simp only [kOk] at ok
        split
        · cases hv
          refine adv_value h hd (u := .int .i64 0) (run _ ?_) (.int _ _)
          simp [Builtin.len_, h0, run_underlying ok]; rfl
        · split
          · rename_i kk n has val hmo
            obtain ⟨b, es, clock, kf, rfl, hb, hn, -⟩ := mapOf_is h hob hmo hv
            refine adv_value h hd (u := .int .i64 n) (run _ ?_) (.int _ _)
            simp [Builtin.len_, h0, run_underlying ok, MapKept.run_getObj_map hb, Result.andThen, hn]; rfl
          · trivial
      · trivial
    · trivial

theorem says_look (hT : TsOk P T) {t : TypeId} {x y : Operand} {ok : Bool} (e : o.op = .lookup t x y ok) {vals : List AV} (hv : Ops w.heap D μ a [x, y] vals) {ob : Nat → Option Ob} (hob : ∀ id z, ob id = some z → g id = some z) :
    Says P base M W nt f g c o a w (cLook T std t ok ob vals) := by
  match vals, hv with
  | [m, k], ⟨hm, hk, _⟩ =>
    unfold cLook
    simp only
    split
    · rename_i sz ag ze kt et eqf p1 p2 p3 hi
      have hu := (hT t _ hi).k
      simp only [kOk] at hu
      split
      · rename_i ei hei
        split
        · rename_i kk n has val hmo
          split
          · rename_i key hkk hke
            obtain ⟨rfl, hp⟩ := kkOk_ok hkk
            obtain ⟨b, es, clock, kf, hmv, hb, hn, hks, hr⟩ := mapOf_is h hob hmo hm
            have hkey := keyIs hke hk
            obtain ⟨f1, f2, f3⟩ := find_run hT hks hkey hp w
            obtain ⟨z, z1, z2⟩ := (hT et ei hei).zeroR
            have rz : R w.heap D μ (zeroOf ei) z := z2 _ _ _
            obtain ⟨u, hrun, ru⟩ : ∃ u, (Instr.lookup t (a.eval x) (a.eval y) ok).run P w = .ok (cond ok (.tuple #[u, .bool (has key)]) u) w ∧ R w.heap D μ (selV std (has key) (val key) (zeroOf ei)) u := by
              rcases f3 with ⟨g1, g2, _⟩ | ⟨j, x', g1, g2, g3, g4, g5⟩
              · refine ⟨z, ?_, by rw [g1]; exact selV_false rz _⟩
                rw [hmv]
                unfold Instr.lookup
                simp only [Sem.run_bind, run_underlying hu, Result.andThen_ok, MapKept.run_getObj_map hb, f1, g2, z1, Sem.run_pure, g1]
                cases ok <;> rfl
              · have rj := (hr j x' g3).free (μ := μ)
                rw [g2] at rj
                refine ⟨x'.val, ?_, by rw [g1]; exact selV_true rj _⟩
                rw [hmv]
                unfold Instr.lookup
                simp only [Sem.run_bind, run_underlying hu, Result.andThen_ok, MapKept.run_getObj_map hb, f1, g5, Sem.run_pure, g1]
                cases ok <;> rfl
            cases ok with
            | true =>
              refine adv_value h hd (u := .tuple #[u, .bool (has key)]) ?_ (.tup _ _ rfl (fun i x' v hx hv => ?_))
              · unfold execOp
                rw [e]
                simp [hrun]
              · match i with
                | 0 => simp at hx hv; subst hx; subst hv; exact ru
                | 1 => simp at hx hv; subst hx; subst hv; exact .bool _
                | i + 2 => simp at hx
            | false =>
              refine adv_value h hd (u := u) ?_ ru
              unfold execOp
              rw [e]
              simp [hrun]
          · trivial
        · trivial
      · trivial
    · trivial

theorem says_mup (hT : TsOk P T) {t : TypeId} {x y v : Operand} (e : o.op = .mapUpdate t x y v) {vals : List AV} (hv : Ops w.heap D μ a [x, y, v] vals) {ob : Nat → Option Ob} (hob : ∀ id z, ob id = some z → g id = some z) {ice : Nat → Bool} (hice : ∀ id, ice id = false → c id = false) :
    Says P base M W nt f g c o a w (cMup T std t ob ice vals) := by
  unfold cMup
  split
  · rename_i id k val'
    obtain ⟨hm, hk, hx, _⟩ := hv
    split
    · rename_i sz ag ze kt et eqf p1 p2 p3 hi
      have hu := (hT t _ hi).k
      simp only [kOk] at hu
      split
      · rename_i kk n has val hic hg
        have hic := hice _ hic
        have hg := hob _ _ hg
        split
        · rename_i key hkk hke
          obtain ⟨rfl, hp⟩ := kkOk_ok hkk
          split
          · rename_i v' himm hnot
            have hkey := keyIs hke hk
            obtain ⟨l2, l1⟩ := immV_ok h hob himm (ids := idsV val') (fun _ h => h)
            have l1 := l1 _ hx
            have h' := h.freeze (idsV val') l2
            have hic' : cput c (idsV val') id = false := by simp [cput, hnot, hic]
            generalize hum : a.eval x = um at hm
            cases hm with
            | mp _ b z m hμ =>
              obtain ⟨es, clock, kf, hb, hn, hks, hr⟩ := h'.obs id _ _ hg hμ
              obtain ⟨f1, f2, f3⟩ := find_run hT hks hkey hp w
              -- the entries behind it
              obtain ⟨es', clock', kf', hrun, hn', hks', hr'⟩ : ∃ es' clock' kf', (Instr.mapUpdate t (.map (some b)) (a.eval y) (a.eval v)).run P w = .ok () { w with heap := w.heap.setIfInBounds b (.map es' clock') } ∧ es'.size = L2 std mapN (std has key) n ∧
                  KeysOk (kkOf T kt) (hasPut std key has) es' clock' kf' ∧ ∀ (i : Nat) e, es'[i]? = some e → R w.heap (fun b => D b ∨ ∃ id z m, id ∈ idsV val' ∧ μ id = some (some (b, z, m))) noMu (valPut std key v' val (kf' i)) e.val := by
                rcases f3 with ⟨g1, g2, g3⟩ | ⟨j, x', g1, g2, g3, g4, g5⟩
                · refine ⟨es.push { key := a.eval y, val := a.eval v, born := clock }, clock + 1, fun i => if i = es.size then key else kf i, ?_, ?_, ?_, ?_⟩
                  · simp [Instr.mapUpdate, run_underlying hu, MapKept.run_getObj_map hb, f1, g2, MapKept.run_setObj_map _ hb, Result.andThen]
                  · simp [L2, std, mapN, g1, hn]
                  · refine ⟨fun i x' hx' => ?_, fun k' hk' => ?_, MapKept.stamped_push hks.st g3⟩
                    · rw [Array.getElem?_push] at hx'
                      split at hx'
                      · rename_i hi'; cases hx'; rw [if_pos hi']; exact ⟨hkey, by simp [hasPut, L2, std, kyeq]⟩
                      · rename_i hi'; rw [if_neg hi']
                        obtain ⟨q1, q2⟩ := hks.key i x' hx'
                        exact ⟨q1, by simp [hasPut, L2, std, q2]⟩
                    · simp only [hasPut, L2, std, kyeq, Bool.or_eq_true, decide_eq_true_eq] at hk'
                      rcases hk' with rfl | hk'
                      · exact ⟨es.size, by simp, by simp⟩
                      · obtain ⟨i, i1, i2⟩ := hks.all k' hk'
                        exact ⟨i, by simp; omega, by rw [if_neg (by omega)]; exact i2⟩
                  · intro i x' hx'
                    rw [Array.getElem?_push] at hx'
                    split at hx'
                    · rename_i hi'; cases hx'; simp only [hi', if_true]
                      simp only [valPut, L2, std, kyeq, decide_true]
                      exact selV_true l1 _
                    · rename_i hi'; simp only [if_neg hi']
                      have hne : ¬ kf i = key := by
                        rintro q
                        have := (hks.key i x' hx').2
                        rw [q, g1] at this; cases this
                      simp only [valPut, L2, std, kyeq, decide_eq_false hne]
                      exact selV_false (hr i x' hx') _
                · have hlt : j < es.size := (Array.getElem?_eq_some_iff.1 g3).1
                  refine ⟨es.modify j fun e => { e with key := a.eval y, val := a.eval v }, clock, kf, ?_, ?_, ?_, ?_⟩
                  · simp [Instr.mapUpdate, run_underlying hu, MapKept.run_getObj_map hb, f1, f2, g3, g4, g5, MapKept.run_setObj_map _ hb, Result.andThen]
                  · simp [L2, std, mapN, g1, hn]
                  · refine ⟨fun i x2 hx2 => ?_, fun k' hk' => ?_, MapKept.stamped_modify hks.st _ _ (fun _ _ => rfl) (fun e' _ he' => by rw [g3] at he'; cases he'; exact g4.symm)⟩
                    · rw [Array.getElem?_modify] at hx2
                      split at hx2
                      · rename_i hi'
                        subst hi'
                        rw [g3] at hx2
                        cases hx2
                        rw [g2]
                        exact ⟨hkey, by simp [hasPut, L2, std, kyeq]⟩
                      · obtain ⟨q1, q2⟩ := hks.key i x2 hx2
                        exact ⟨q1, by simp [hasPut, L2, std, q2]⟩
                    · simp only [hasPut, L2, std, kyeq, Bool.or_eq_true, decide_eq_true_eq] at hk'
                      rcases hk' with rfl | hk'
                      · exact ⟨j, by simpa using hlt, g2⟩
                      · obtain ⟨i, i1, i2⟩ := hks.all k' hk'
                        exact ⟨i, by simpa using i1, i2⟩
                  · intro i x2 hx2
                    rw [Array.getElem?_modify] at hx2
                    split at hx2
                    · rename_i hi'
                      subst hi'
                      rw [g3] at hx2
                      cases hx2
                      rw [g2]
                      simp only [valPut, L2, std, kyeq, decide_true]
                      exact selV_true l1 _
                    · rename_i hi'
                      have hne : ¬ kf i = key := by
                        rintro q
                        have k1 := (hks.key i x2 hx2).1
                        rw [q] at k1
                        have k3 : x2.key = x'.key := by rw [g4]; exact k1.val hkey
                        have hi2 : i < es.size := (Array.getElem?_eq_some_iff.1 hx2).1
                        have nd := hks.st.2.2
                        have p1 : (es.toList.map (·.key))[i]? = some x2.key := by simp [hx2]
                        have p2 : (es.toList.map (·.key))[j]? = some x'.key := by simp [g3]
                        rw [k3, ← p2] at p1
                        have := (List.getElem?_inj (by simpa using hi2) nd).1 p1
                        exact hi' this.symm
                      simp only [valPut, L2, std, kyeq, decide_eq_false hne]
                      exact selV_false (hr i x2 hx2) _
              have hblt : b < w.heap.size := (Array.getElem?_eq_some_iff.1 hb).1
              have run : (execOp a.eval o).run P w = .ok .skip { w with heap := w.heap.setIfInBounds b (.map es' clock') } := by
                unfold execOp
                rw [e]
                simp [hum, hrun]
              intro K Q hK
              unfold Oper.wp
              rw [run]
              have h1 := h'.turn (ob' := .map (kkOf T kt) (L2 std mapN (std has key) n) (hasPut std key has) (valPut std key v' val)) (w' := { w with heap := w.heap.setIfInBounds b (.map es' clock') }) hμ hg (by simp) (by simp) hic' rfl rfl rfl (by simp) (fun k' hk' => by simp [Ne.symm hk'])
                (fun hD => ⟨es', clock', kf', by simp [hblt], hn', hks', fun i x' hx' => (hr' i x' hx').mono hD (fun _ h => h) (fun _ _ h => h)⟩)
              exact hK _ _ ⟨_, _, h1.put hd (.dead _)⟩
          · trivial
        · trivial
      · trivial
    · trivial
  · trivial

theorem says_mdel (hT : TsOk P T) {x y : Operand} {t t' : Nat} {ts : Array TypeId} (hts : ts.toList = [t, t']) (e : o.op = .call { callee := .builtin .delete, args := #[x, y], argTypes := ts }) {vals : List AV} (hv : Ops w.heap D μ a [x, y] vals) {ob : Nat → Option Ob} (hob : ∀ id z, ob id = some z → g id = some z) {ice : Nat → Bool} (hice : ∀ id, ice id = false → c id = false) :
    Says P base M W nt f g c o a w (cMdel T std t ob ice vals) := by
  have hts' : ts = #[t, t'] := by apply Array.ext'; simpa using hts
  subst hts'
  unfold cMdel
  split
  · rename_i id k
    obtain ⟨hm, hk, _⟩ := hv
    split
    · rename_i sz ag ze kt et eqf p1 p2 p3 hi
      have hu := (hT t _ hi).k
      simp only [kOk] at hu
      split
      · rename_i kk n has val hic hg
        have hic := hice _ hic
        have hg := hob _ _ hg
        split
        · rename_i key hkk hke
          obtain ⟨rfl, hp⟩ := kkOk_ok hkk
          have hkey := keyIs hke hk
          generalize hum : a.eval x = um at hm
          cases hm with
          | mp _ b z m hμ =>
            obtain ⟨es, clock, kf, hb, hn, hks, hr⟩ := h.obs id _ _ hg hμ
            obtain ⟨f1, f2, f3⟩ := find_run hT hks hkey hp w
            obtain ⟨es', kf', hrun, hn', hks', hr'⟩ : ∃ es' kf', (Builtin.delete_ #[t, t'] o.type #[.map (some b), a.eval y]).run P w = .ok (.tuple #[]) { w with heap := w.heap.setIfInBounds b (.map es' clock) } ∧ es'.size = L2 std mapD (std has key) n ∧
                KeysOk (kkOf T kt) (hasDel std key has) es' clock kf' ∧ ∀ (i : Nat) e, es'[i]? = some e → R w.heap D noMu (val (kf' i)) e.val := by
              rcases f3 with ⟨g1, g2, g3⟩ | ⟨j, x', g1, g2, g3, g4, g5⟩
              · refine ⟨es, kf, ?_, by simp [L2, std, mapD, g1, hn], ⟨fun i x' hx' => ⟨(hks.key i x' hx').1, ?_⟩, fun k' hk' => hks.all k' ?_, hks.st⟩, hr⟩
                · simp [Builtin.delete_, run_underlying hu, MapKept.run_getObj_map hb, f1, g2, MapKept.run_setObj_map _ hb, Result.andThen]
                · have q := (hks.key i x' hx').2
                  have hne : ¬ kf i = key := by rintro e'; rw [e', g1] at q; cases q
                  simp [hasDel, L2, std, kyeq, andN, hne, q]
                · simp only [hasDel, L2, std, andN, Bool.and_eq_true] at hk'; exact hk'.2
              · have hlt : j < es.size := (Array.getElem?_eq_some_iff.1 g3).1
                have hers : ∀ i : Nat, (es.eraseIdxIfInBounds j)[i]? = if i < j then es[i]? else es[i + 1]? := by
                  intro i
                  unfold Array.eraseIdxIfInBounds
                  rw [dif_pos hlt, Array.getElem?_eraseIdx]
                have inj : ∀ i e, es[i]? = some e → kf i = key → i = j := by
                  intro i e1 he1 q
                  have k1 := (hks.key i e1 he1).1
                  rw [q] at k1
                  have k3 : e1.key = x'.key := by rw [g4]; exact k1.val hkey
                  have hi2 : i < es.size := (Array.getElem?_eq_some_iff.1 he1).1
                  have p1 : (es.toList.map (·.key))[i]? = some e1.key := by simp [he1]
                  have p2 : (es.toList.map (·.key))[j]? = some x'.key := by simp [g3]
                  rw [k3, ← p2] at p1
                  exact (List.getElem?_inj (by simpa using hi2) hks.st.2.2).1 p1
                refine ⟨es.eraseIdxIfInBounds j, fun i => if i < j then kf i else kf (i + 1), ?_, ?_, ⟨fun i x2 hx2 => ?_, fun k' hk' => ?_, MapKept.stamped_erase hks.st j⟩, fun i x2 hx2 => ?_⟩
                · simp [Builtin.delete_, run_underlying hu, MapKept.run_getObj_map hb, f1, g5, MapKept.run_setObj_map _ hb, Result.andThen]
                · simp only [L2, std, mapD, g1, cond_true, ← hn]
                  unfold Array.eraseIdxIfInBounds
                  rw [dif_pos hlt]
                  simp
                · rw [hers] at hx2
                  have fin : ∀ i' (e2 : MapEntry), es[i']? = some e2 → i' ≠ j → KyIs (kkOf T kt) e2.key (kf i') ∧ hasDel std key has (kf i') = true := by
                    intro i' e2 he2 hne
                    obtain ⟨q1, q2⟩ := hks.key i' e2 he2
                    exact ⟨q1, by simp only [hasDel, L2, std, andN, kyeq, q2, Bool.and_true, Bool.not_eq_true', decide_eq_false_iff_not]; exact fun q => hne (inj i' e2 he2 q)⟩
                  by_cases hij : i < j
                  · rw [if_pos hij] at hx2; simp only [if_pos hij]; exact fin i x2 hx2 (by omega)
                  · rw [if_neg hij] at hx2; simp only [if_neg hij]; exact fin (i + 1) x2 hx2 (by omega)
                · simp only [hasDel, L2, std, andN, kyeq, Bool.and_eq_true, Bool.not_eq_true', decide_eq_false_iff_not] at hk'
                  obtain ⟨i, i1, i2⟩ := hks.all k' hk'.2
                  have hij : i ≠ j := by rintro rfl; rw [g2] at i2; exact hk'.1 i2.symm
                  have hsz : (es.eraseIdxIfInBounds j).size = es.size - 1 := by
                    unfold Array.eraseIdxIfInBounds
                    rw [dif_pos hlt]
                    simp
                  rw [hsz]
                  by_cases hlt' : i < j
                  · exact ⟨i, by omega, by simp only [if_pos hlt']; exact i2⟩
                  · exact ⟨i - 1, by omega, by simp only [if_neg (show ¬ i - 1 < j by omega)]; rw [show i - 1 + 1 = i by omega]; exact i2⟩
                · rw [hers] at hx2
                  by_cases hij : i < j
                  · rw [if_pos hij] at hx2; simp only [if_pos hij]; exact hr i x2 hx2
                  · rw [if_neg hij] at hx2; simp only [if_neg hij]; exact hr (i + 1) x2 hx2
            have hblt : b < w.heap.size := (Array.getElem?_eq_some_iff.1 hb).1
            have run : (execOp a.eval o).run P w = .ok (.value (.tuple #[])) { w with heap := w.heap.setIfInBounds b (.map es' clock) } := by
              unfold execOp
              rw [e]
              simp [resolve, invoke, builtin, hum, hrun]
            intro K Q hK
            unfold Oper.wp
            rw [run]
            have h1 := h.turn (ob' := .map (kkOf T kt) (L2 std mapD (std has key) n) (hasDel std key has) val) (w' := { w with heap := w.heap.setIfInBounds b (.map es' clock) }) hμ hg (by simp) (by simp) hic rfl rfl rfl (by simp) (fun k' hk' => by simp [Ne.symm hk'])
              (fun hD => ⟨es', clock, kf', by simp [hblt], hn', hks', fun i x' hx' => (hr' i x' hx').mono hD (fun _ h => h) (fun _ _ h => h)⟩)
            exact hK _ _ ⟨_, _, h1.put hd (.tup _ _ rfl (fun i x v hx => by simp at hx))⟩
        · trivial
      · trivial
    · trivial
  · trivial
end

end Sy
end Go.Proofs.YtckbbcjbbmgmoaaDoor
