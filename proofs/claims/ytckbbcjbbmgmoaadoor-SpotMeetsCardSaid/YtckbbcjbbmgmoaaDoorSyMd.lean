/- The symbolic executor: an element of an array, 'copy'. -/
import Derived.Test.YtckbbcjbbmgmoaaDoorSyMu
namespace Go.Proofs.YtckbbcjbbmgmoaaDoor
namespace Sy
open Go Go.RowKit
set_option linter.unusedSimpArgs false
set_option linter.unusedVariables false

section
variable {P : Program} {T : TT} {base : Nat} {M : Two} {W : World} {nt : Nat} {f : Nat → Option AV} {g : Nat → Option Ob} {c : Nat → Bool} {a : Act} {w : World} {D : Nat → Prop} {μ : Mu} {o : Oper}
variable (h : Sim base M W nt f g c a w D μ) (hd : ∀ d, o.dst = some d → d < nt)
include h hd

theorem says_index (hT : TsOk P T) {t : TypeId} {x y : Operand} (e : o.op = .index t x y) {vals : List AV} (hv : Ops w.heap D μ a [x, y] vals) : Says P base M W nt f g c o a w (cIndex T std t vals) := by
  match vals, hv with
  | [v, v'], ⟨hx, hy, _⟩ =>
    unfold cIndex
    split
    · rename_i l k i he
      simp only [List.cons.injEq, and_true] at he
      obtain ⟨rfl, rfl⟩ := he
      split
      · rename_i sz ag ze eqf p1 p2 p3 hi
        have ok : P.underlying t = some .string := (hT t _ hi).k
        intro hb
        obtain ⟨h0, h1⟩ := inR_spec hb
        obtain ⟨s, e1, rfl⟩ := hx.inv_str
        have e2 := hy.inv_int
        have hlt : i.toNat < s.size := by simp [std, slen] at h1; have : (s.data.size : Int) = s.size := rfl; omega
        refine adv_value h hd (u := .int .u8 (s[i.toNat]'hlt).toNat) ?_ ?_
        · unfold execOp
          rw [e]
          have : s[i.toNat]? = some (s[i.toNat]'hlt) := by simp [hlt]
          simp [e1, e2, Instr.index, asIntOf, run_underlying ok, h0, this]
        · have : L2 std sidx s.data.toList i = ((s[i.toNat]'hlt).toNat : Int) := by
            have hlt' : i.toNat < s.data.size := hlt
            have h5 : s.data.toList[i.toNat]? = some (s[i.toNat]'hlt) := by
              rw [Array.getElem?_toList, Array.getElem?_eq_getElem hlt']; rfl
            simp only [L2, std, sidx, List.getD, h5, Option.getD_some]
          rw [this]; exact .int _ _
      · trivial
    · rename_i cs k i he
      simp only [List.cons.injEq, and_true] at he
      obtain ⟨rfl, rfl⟩ := he
      split
      · rename_i sz ag ze n e' eqf p1 p2 p3 hi
        have ok := (hT t _ hi).k
        obtain ⟨ok1, ok2⟩ := ok
        obtain ⟨ei', hei', hes⟩ := Option.map_eq_some_iff.1 ok2
        split
        · rename_i ei hlen hei
          have hlen := beq_eq hlen
          rw [llen_eq] at hlen
          split
          · rename_i hag hs1
            have hs1 := beq_eq hs1
            intro hb
            obtain ⟨h0, h1⟩ := inR_spec hb
            have h1' : i < (n : Int) := h1
            obtain ⟨us, e1, o1, s1, hr⟩ := hx.inv_agg
            have e2 := hy.inv_int
            have hlt : i.toNat < n := by omega
            have hso : (sizeOf e').run P w = .ok 1 w := by simp [sizeOf, typeInfo, program, Sem.run, hei', hes]
            obtain ⟨u, hu, r⟩ := part_run (P := P) hT hei o1 ⟨s1, hr⟩ (i.toNat * 1) (by rw [hs1]; omega) (fun _ => hs1)
            rw [hag] at r
            have hg := rowOf_get (cs := cs) (sz := 1) (n := n) (by omega) (i := i.toNat) (j := 0) hlt (by omega)
            have hl : lget .dead cs (i.toNat * 1) = rowOf std cs 1 i.toNat 0 := by
              have h5 := lget_get .dead cs (i.toNat * 1) (by omega)
              rw [Nat.add_zero] at hg
              rw [h5] at hg
              exact Option.some.inj hg
            rw [hl] at r
            refine adv_value h hd (u := u) ?_ r
            unfold execOp
            rw [e]
            rw [Nat.mul_one] at hu
            simp [e1, e2, Instr.index, asIntOf, run_underlying ok1, h0, h1', hso, hu]
          · trivial
        · trivial
      · trivial
    · trivial

theorem says_arr (hT : TsOk P T) {t : TypeId} {x : Operand} (e : o.op = .sliceToArrayPointer t x) {vals : List AV} (hv : Ops w.heap D μ a [x] vals)
    {ob : Nat → Option Ob} (hob : ∀ id z, ob id = some z → g id = some z) : Says P base M W nt f g c o a w (cArr T std t ob vals) := by
  match vals, hv with
  | [v], ⟨hx, _⟩ =>
    simp only [cArr]
    · split
      · rename_i sz ag ze m e' eqf p1 p2 p3 hi
        obtain ⟨ok1, -⟩ := (hT t _ hi).k
        split
        · rename_i n get him
          split
          · rename_i hm
            rw [nblt_eq] at hm
            intro hb
            have hb : m ≤ n := by
              have hb : nble m n = true := hb
              rw [nble_eq] at hb
              exact hb
            obtain ⟨l1, l2⟩ := imm1_ok h hob him hx (ids := ids1 v) (fun _ h => h)
            have h' := h.freeze (ids1 v) l2
            intro K Q hK
            unfold Oper.wp
            generalize hu : a.eval x = u at l1
            cases l1 with
            | lst0 => omega
            | lst _ _ _ b oo cap vs hD hc hv h1 hr =>
              have run : (execOp a.eval o).run P w = .ok (.value (.pointer (some ⟨b, oo, none⟩))) w := by
                unfold execOp
                rw [e]
                simp [hu, Instr.arrayAt, run_underlying ok1, show ¬ n < m by omega]
              rw [run]
              exact hK _ _ ⟨_, _, h'.put hd (.iptr m _ b oo (fun j => vs j 0) hD (fun j hj => by have := hv j 0 (by omega) (by omega); simpa using this) (fun j hj => h1 j 0 (by omega) (by omega)) (fun j hj => hr j 0 (by omega) (by omega)))⟩
          · trivial
        · trivial
      · trivial
theorem says_copy (hT : TsOk P T) {t t' : Nat} {x y : Operand} {ts : Array TypeId} (hts : ts.toList = [t, t']) (e : o.op = .call { callee := .builtin .copy, args := #[x, y], argTypes := ts }) {vals : List AV} (hv : Ops w.heap D μ a [x, y] vals)
    {ob : Nat → Option Ob} (hob : ∀ id z, ob id = some z → g id = some z) {ice : Nat → Bool} (hice : ∀ id, ice id = false → c id = false) :
    Says P base M W nt f g c o a w (cCopy T std t t' ob ice vals) := by
  obtain rfl : ts = #[t, t'] := by apply Array.ext'; simpa using hts
  unfold cCopy
  split
  · rename_i id sz off n xv
    obtain ⟨hx, hy, _⟩ := hv
    split
    · rename_i sz0 ag ze e' esz eb eqf p1 p2 p3 hi
      obtain ⟨ok1, ok2⟩ := (hT t _ hi).k
      obtain ⟨ei', hei', hes⟩ := Option.map_eq_some_iff.1 ok2
      simp only [Prod.mk.injEq] at hes
      obtain ⟨hes1, hes2⟩ := hes
      subst hes1; subst hes2
      split
      · rename_i m src hsrc
        have c1 : notInt T t' = true := by cases hx : notInt T t' <;> simp_all
        have c2 : nble 1 ei'.size = true := by cases hx : nble 1 ei'.size <;> simp_all
        have c3 : (T.find e').isSome = true := by cases hx : (T.find e').isSome <;> simp_all
        rw [c1, c2, c3] at hsrc
        simp only [cond_true] at hsrc
        split
        · rename_i ty sz' k get hsz hic hg
          obtain rfl := beq_eq hsz
          have hg := hob _ _ hg
          have hic := hice _ hic
          split
          · rename_i hsz'
            obtain rfl := beq_eq hsz'
            intro hb
            have hb' : 0 < n ∧ m ≤ n := by
              have hb : (nblt 0 n && nble m n) = true := hb
              rw [Bool.and_eq_true, nblt_eq, nble_eq] at hb
              exact hb
            obtain ⟨news, n1, n2, n3, n4⟩ := src_run (P := P) h hob hsrc hy
            have run : ∀ u w', (Builtin.copy_ #[t, t'] o.type #[a.eval x, a.eval y]).run P w = .ok u w' → (execOp a.eval o).run P w = .ok (.value u) w' := by
              intro u w' hu
              unfold execOp
              rw [e]
              simp [resolve, invoke, builtin, hu]
            generalize a.eval x = u at hx run
            cases hx with
            | slv => omega
            | sl0 => omega
            | sl _ _ _ _ b z mm cap hμ hn hz ho =>
              obtain ⟨hm, C, t0, fr, hh, hcs, hf, hle, hrow⟩ := h.obs id _ _ hg hμ
              subst hm
              have hmz : off * ei'.size + m * ei'.size ≤ C.size := by
                have h1 : (off + m) * ei'.size ≤ (off + cap) * ei'.size := Nat.mul_le_mul_right _ (by omega)
                rw [Nat.add_mul] at h1
                omega
              have hst := stores_run P b (off * ei'.size) t0 fr news 0 C w hh (by rw [hcs]; exact hf.1) (by rw [n1]; omega) (fun v hv => by
                obtain ⟨q, hq⟩ := List.getElem?_of_mem hv
                have hql : q < m * ei'.size := by rw [← n1]; exact (List.getElem?_eq_some_iff.1 hq).1
                have h0 := ble_le c2
                obtain ⟨v', v1, v2, v3⟩ := n4 (q / ei'.size) (q % ei'.size) (Nat.div_lt_of_lt_mul (by rw [Nat.mul_comm]; exact hql)) (Nat.mod_lt _ (by omega))
                rw [show q / ei'.size * ei'.size + q % ei'.size = q by rw [Nat.mul_comm]; exact Nat.div_add_mod q ei'.size, hq] at v1
                cases v1
                exact v2)
              simp only [Nat.add_zero] at hst
              have hso : (sizeOf e').run P w = .ok ei'.size w := by simp [sizeOf, typeInfo, program, Sem.run, hei']
              have hmin : Nat.min m n = m := Nat.min_eq_left hb'.2
              have hfc := n2 w rfl
              have hrun : (Builtin.copy_ #[t, t'] o.type #[.slice (some ⟨b, off * ei'.size, none⟩) n cap, a.eval y]).run P w = .ok (goInt m) (w.setRow b (seqset C (off * ei'.size) news)) := by
                simp [Builtin.copy_, run_underlying ok1, n3, hmin, hso, hfc, hst]
              intro K Q hK
              unfold Oper.wp
              rw [run _ _ hrun]
              have h1 := h.write (C' := seqset C (off * ei'.size) news) (ob' := .row ty ei'.size k (fun i j => sel1 std (L3 std segCp off m i) (src (L2 std Nat.sub i off) j) (get i j))) hμ hg (by simp) (by simp) hic hh (fun hD => by
                refine ⟨rfl, _, t0, fr, setRow_heap w b C _ t0 fr hh, by rw [seqset_size, hcs], hf, hle, fun i j hi' hj => ?_⟩
                obtain ⟨y0, y1, y2, y3⟩ := hrow i j hi' hj
                have hin : i * ei'.size + j < C.size := (Array.getElem?_eq_some_iff.1 y1).1
                rw [seqset_get _ _ _ _ hin]
                by_cases hseg : off ≤ i ∧ i < off + m
                · have hB : L3 std segCp off m i = true := by
                    show (nble off i && nblt i (off + m)) = true
                    rw [Bool.and_eq_true, nblt_eq, nble_eq]
                    exact hseg
                  obtain ⟨v, v1, v2, v3⟩ := n4 (i - off) j (by omega) hj
                  have hi1 : i * ei'.size = off * ei'.size + (i - off) * ei'.size := by rw [← Nat.add_mul]; congr 1; omega
                  have hlt := (List.getElem?_eq_some_iff.1 v1).1
                  have rr : R (w.setRow b (seqset C (off * ei'.size) news)).heap D noMu (sel1 std (L3 std segCp off m i) (src (L2 std Nat.sub i off) j) (get i j)) v := by
                    rw [hB]; exact sel1_true (v3.mono hD (fun _ h => h) (fun _ _ h => h)) _
                  refine ⟨v, ?_, v2, rr⟩
                  rw [if_pos ⟨by omega, by omega⟩, show i * ei'.size + j - off * ei'.size = (i - off) * ei'.size + j by omega]
                  exact v1
                · have hB : L3 std segCp off m i = false := by
                    show (nble off i && nblt i (off + m)) = false
                    cases hq : (nble off i && nblt i (off + m)) with
                    | false => rfl
                    | true =>
                      rw [Bool.and_eq_true, nblt_eq, nble_eq] at hq
                      exact absurd hq hseg
                  have rr : R (w.setRow b (seqset C (off * ei'.size) news)).heap D noMu (sel1 std (L3 std segCp off m i) (src (L2 std Nat.sub i off) j) (get i j)) y0 := by
                    rw [hB]; exact sel1_false (y3.mono hD (fun _ h => h) (fun _ _ h => h)) _
                  refine ⟨y0, ?_, y2, rr⟩
                  rw [if_neg]
                  · exact y1
                  · rintro ⟨p1, p2⟩
                    rw [n1] at p2
                    apply hseg
                    constructor
                    · apply Nat.le_of_not_lt
                      intro hlt
                      have h3 : (i + 1) * ei'.size ≤ off * ei'.size := Nat.mul_le_mul_right _ hlt
                      rw [Nat.add_mul] at h3
                      omega
                    · apply Nat.lt_of_not_le
                      intro hge
                      have h3 : (off + m) * ei'.size ≤ i * ei'.size := Nat.mul_le_mul_right _ hge
                      rw [Nat.add_mul] at h3
                      omega)
              exact hK _ _ ⟨_, _, h1.put hd (.int _ _)⟩
          · trivial
        · trivial
      · trivial
    · trivial
  · trivial
end
end Sy
end Go.Proofs.YtckbbcjbbmgmoaaDoor
