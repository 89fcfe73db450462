/- The symbolic executor: functions that turn blocks of their caller's. -/
import Derived.Test.YtckbbcjbbmgmoaaDoorSyS
namespace Go.Proofs.YtckbbcjbbmgmoaaDoor
namespace Sy
open Go Go.RowKit
set_option linter.unusedSimpArgs false
set_option linter.unusedVariables false
set_option linter.unusedSectionVars false

def pins : List (Nat × Ob) → List Nat
  | [] => []
  | (n, _) :: r => match isPin n with | true => n :: pins r | false => pins r
def allPin : List (Nat × Ob) → Bool
  | [] => true
  | (n, _) :: r => match isPin n with | true => allPin r | false => false
section
variable (T : TT) (L : Seal) (S : Sums) (lo lb : Nat → St → Option Ann)
def endM (rts : List AV) (O1 : List (Nat × Ob)) (rs : List ResultVar) (s : St) : Tree :=
  match resVs T s rs with
  | some vs => match nbeq (llen vs) (llen rts) with
    | true => meetT ⟨numb 0 vs, s.objs, s.ice, []⟩ ⟨numb 0 rts, O1, [], []⟩ (pins O1) .yes
    | false => .fail 263
  | none => .fail 264
def finM (rts : List AV) (O1 : List (Nat × Ob)) (rs : List ResultVar) : K := fun e s => match e with
  | .normal => endM T rts O1 rs s
  | .ret => endM T rts O1 rs s
  | _ => .fail 262
def runM (n : Nat) (f : Func) (xs : List AV) (O : List (Nat × Ob)) (rts : List AV) (O1 : List (Nat × Ob)) : Tree :=
  match f.body with
  | some c => run T L S lo (scopeT lb (pass T L S lo lb n)) noL c ⟨numb 0 xs, O, [], []⟩ (finM T rts O1 f.results.toList)
  | none => .fail 270
end
def resOf : List AV → AV
  | [r] => r
  | rs => .tup rs
theorem allPin_get : ∀ {O : List (Nat × Ob)}, allPin O = true → ∀ n, aget O n ≠ none → isPin n = true
  | [], _, n, h => by simp [aget] at h
  | (m, o) :: r, e, n, h => by
    unfold allPin at e
    unfold aget at h
    split at e
    · rename_i hp
      split at h
      · rename_i hb; rw [← beq_eq hb]; exact hp
      · exact allPin_get e n h
    · cases e

/-- **A function** that turns its caller's blocks: if the executor's run of it ends as told wherever it ends, it does so. -/
theorem mcalls_of {P : Program} {T : TT} {S : Sums} {lo lb : Nat → St → Option Ann} {n : Nat} {f : FuncId} {fn : Func} {c : Code} {xs : List AV} {O : List (Nat × Ob)} {rts : List AV} {O1 : List (Nat × Ob)} (hf : P.funcs[f]? = some fn) (hb : fn.body = some c) (hn : (fn.name == "runtime.NumGoroutine") = false)
    (hc : codeOk fn.ntmps c = true) (hx : (nble xs.length fn.ntmps && nble fn.ntmps 500000 && nble fn.results.size 500000 && allPin O) = true) (hT : TsOk P T) (hS : SumsOk P S) (hm : P.follows .mixedOrders = true) {Q : AV → Prop} (h : Sat P Q (runM T std S lo lb n fn xs O rts O1)) : MCalls P f xs O (resOf rts) O1 := by
  intro D w μ vs hD hxs hdom hobs hinj hown hg hgb
  rw [Bool.and_eq_true, Bool.and_eq_true, Bool.and_eq_true] at hx
  obtain ⟨⟨⟨hx, hnb⟩, hrb⟩, hpin⟩ := hx
  have hx := ble_le hx
  have hnb := ble_le hnb
  have hrb := ble_le hrb
  unfold CallTo
  rw [callFunc_run hf hn hb]
  simp only
  refine calls_of_wp hf hb ?_
  unfold runM at h
  rw [hb] at h
  refine code_go (base := w.heap.size) (M := ⟨fun b => ∃ n z, μ n = some (some (b, z)), D, fun n => (μ n).getD none⟩) (W := w) hT hS hm hc ⟨⟨D, μ, ?_⟩, fun t b ht => by simp [aget] at ht⟩ h (fun e s a w' hs h' => ?_)
  · exact {
      os := rfl, tape := rfl, output := rfl, size := Nat.le_refl _, bs := Nat.le_refl _, old := fun _ _ _ => rfl, defers := rfl
      tmps := by
        rw [hxs.1] at hx
        simp; omega
      slots := fun t v hv => by
        have hv : aget (numb 0 xs) t = some v := hv
        rw [aget_numb, if_pos (by omega), Nat.sub_zero] at hv
        have hlt : t < vs.size := by rw [← hxs.1]; exact (List.getElem?_eq_some_iff.1 hv).1
        have h1 : vs[t]? = some vs[t] := by simp [hlt]
        have h2 : (vs ++ Array.replicate (fn.ntmps - vs.size) undef).getD t undef = vs[t] := by
          rw [Array.getD_eq_getD_getElem?, Array.getElem?_append_left hlt, h1]; rfl
        rw [h2]
        exact hxs.2 t v vs[t] hv h1
      dlt := hD, low := fun b hb _ => .inl hb, dom := hdom, obs := hobs
      inj := fun id id' b z z' o o' h1 h2 _ _ _ _ => hinj id id' b z z' h1 h2
      own := fun id b z h1 => ⟨(hown id b z h1).1, .inr ⟨id, z, h1⟩⟩
      kd := fun id b z o h1 _ _ => ⟨fun hx => by simp [lhas] at hx, fun _ => (hown id b z h1).2⟩
      icy := fun id h => by simp [lhas] at h
      ntb := hnb
      pin := fun id y _ hy => by show y = (μ id).getD none; rw [hy]; rfl
      gl := ⟨hg, GOk_size hg, fun b ⟨n, z, hn⟩ => hgb n b z hn⟩ }
  · obtain ⟨⟨D1, μ1, S1⟩, _⟩ := hs
    have key : Sat P Q (endM T rts O1 fn.results.toList s) → a.defers = [] ∧ ∃ v, (results fn a.tmps).run P w' = .ok v w' ∧ ∃ v' D' μ', MEnd D w μ O O1 (resOf rts) (Ending.returned v) v' w' D' μ' := by
      intro h'
      unfold endM at h'
      split at h'
      · rename_i vs1 hvs
        split at h'
        · rename_i hlen
          have hlen := beq_eq hlen
          rw [llen_eq, llen_eq] at hlen
          obtain ⟨l1, us, h1, h2⟩ := ress_go S1 hT hvs
          have hres := results_run (P := P) (w := w') (fn := fn) (tmps := a.tmps) h1
          have hk : vs1.length = fn.results.size := by rw [l1, Array.length_toList]
          have hut : ∀ t, t < fn.results.size → (((List.range fn.results.size).map us).toArray).getD t undef = us t := by
            intro t ht
            rw [Array.getD_eq_getD_getElem?]
            simp [ht]
          have hs1 : SimS w.heap.size ⟨fun b => ∃ n z, μ n = some (some (b, z)), D, fun n => (μ n).getD none⟩ w fn.results.size ⟨numb 0 vs1, s.objs, s.ice, []⟩ ⟨((List.range fn.results.size).map us).toArray, []⟩ w' :=
            ⟨⟨D1, μ1, {
              os := S1.os, tape := S1.tape, output := S1.output, size := S1.size, bs := S1.bs, old := S1.old, defers := rfl
              tmps := by simp
              slots := fun t v hv => by
                have hv : aget (numb 0 vs1) t = some v := hv
                rw [aget_numb, if_pos (by omega), Nat.sub_zero] at hv
                have ht := (List.getElem?_eq_some_iff.1 hv).1
                rw [hut t (by omega)]
                exact h2 t v hv
              dlt := S1.dlt, low := S1.low, dom := S1.dom, obs := S1.obs, inj := S1.inj, own := S1.own, kd := S1.kd, icy := S1.icy, ntb := hrb, pin := S1.pin, gl := S1.gl }⟩, fun t b ht => by simp [aget] at ht⟩
          obtain ⟨⟨⟨D2, μ2, S2⟩, _⟩, _⟩ := meet_go hs1 h' rfl
          refine ⟨S1.defers, _, hres, (if fn.results.size = 1 then us 0 else .tuple ((List.range fn.results.size).map us).toArray), fun b => D b ∨ D2 b, μ2, ?_⟩
          exact {
            ret := rfl, os := S2.os, tape := S2.tape, output := S2.output, size := S2.size
            old := fun b h1 h2 => S2.old b h1 fun ⟨n, z, hn⟩ => h2 n z hn
            up := fun b hb => .inl hb
            dn := fun b hb => by
              rcases hb with hb | hb
              · exact .inl hb
              · by_cases hlt : b < w.heap.size
                · rcases S2.low b hb hlt with q | q
                  · exact .inl q
                  · exact .inr (.inr q)
                · exact .inr (.inl ⟨by omega, S2.dlt b hb⟩)
            dom := S2.dom
            obs := fun n o x ho hx => (S2.obs n o x ho hx).mono (fun _ _ => rfl) (fun _ h => .inr h) (fun _ _ h => h) (fun _ _ _ _ => rfl)
            inj := fun n n' b z z' h1 h2 => by
              have g1 : aget O1 n ≠ none := fun e => by rw [(S2.dom n).2 e] at h1; cases h1
              have g2 : aget O1 n' ≠ none := fun e => by rw [(S2.dom n').2 e] at h2; cases h2
              obtain ⟨o1, q1⟩ := Option.ne_none_iff_exists'.1 g1
              obtain ⟨o2, q2⟩ := Option.ne_none_iff_exists'.1 g2
              exact S2.inj n n' b z z' o1 o2 h1 h2 q1 q2 (meet_live hs1 h' n o1 q1) (meet_live hs1 h' n' o2 q2)
            own := fun n b z h1 => by
              have g1 : aget O1 n ≠ none := fun e => by rw [(S2.dom n).2 e] at h1; cases h1
              obtain ⟨o1, q1⟩ := Option.ne_none_iff_exists'.1 g1
              have k := (S2.kd n b z o1 h1 q1 (meet_live hs1 h' n o1 q1)).2 rfl
              obtain ⟨p1, p2⟩ := S2.own n b z h1
              refine ⟨p1, ?_, ?_⟩
              · rintro (hb | hb)
                · rcases p2 with p2 | ⟨m, z2, p2⟩
                  · have := hD b hb; omega
                  · exact (hown m b z2 p2).2 hb
                · exact k hb
              · rcases p2 with p2 | ⟨m, z2, p2⟩
                · exact .inl p2
                · exact .inr ⟨m, z2, p2⟩
            keep := fun n hn hn1 => by
              obtain ⟨y, hy⟩ := Option.ne_none_iff_exists'.1 (fun e => hn1 ((S2.dom n).1 e) : μ2 n ≠ none)
              have := S2.pin n y (allPin_get hpin n hn) hy
              have h3 : μ n ≠ none := fun e => hn ((hdom n).1 e)
              obtain ⟨y0, hy0⟩ := Option.ne_none_iff_exists'.1 h3
              have h4 : y = (μ n).getD none := this
              rw [hy0] at h4
              rw [hy, hy0, h4]; rfl
            val := by
              have each : ∀ (i : Nat) r, rts[i]? = some r → R w'.heap (fun b => D b ∨ D2 b) μ2 r (us i) := by
                intro i r hr
                have hlt : i < fn.results.size := by
                  have := (List.getElem?_eq_some_iff.1 hr).1
                  omega
                have := S2.slots i r (by show aget (numb 0 rts) i = some r; rw [aget_numb, if_pos (by omega), Nat.sub_zero]; exact hr)
                have h3 := hut i hlt
                have this : R w'.heap D2 μ2 r ((((List.range fn.results.size).map us).toArray).getD i undef) := this
                rw [h3] at this
                exact this.mono (fun _ _ => rfl) (fun _ h => .inr h) (fun _ _ h => h)
              unfold resOf
              split
              · rename_i r
                have hsz : fn.results.size = 1 := by rw [← hk, hlen]; rfl
                rw [if_pos hsz]
                exact each 0 _ rfl
              · rename_i hne
                have hsz : ¬ fn.results.size = 1 := by
                  rw [← hk, hlen]
                  intro h1
                  obtain ⟨v, hv⟩ := List.length_eq_one_iff.1 h1
                  exact hne v hv
                rw [if_neg hsz]
                refine .tup _ _ (by simp; omega) fun i v x hv hx => ?_
                have hlt : i < fn.results.size := by
                  have := (List.getElem?_eq_some_iff.1 hv).1
                  omega
                simp [hlt] at hx
                subst hx
                exact each i v hv }
        · cases h'
      · cases h'
    cases e with
    | normal => exact key h'
    | ret => exact key h'
    | exit id => cases h'
    | goto l => cases h'
end Sy
end Go.Proofs.YtckbbcjbbmgmoaaDoor
