/- The symbolic executor: addresses, slices, loads. -/
import Derived.Test.YtckbbcjbbmgmoaaDoorSyE
import Derived.Laws.IdiomStrings
namespace Go.Proofs.YtckbbcjbbmgmoaaDoor
namespace Sy
open Go Go.RowKit
set_option linter.unusedSimpArgs false
set_option linter.unusedVariables false

theorem bytes_fold : ∀ (ns : List Int) (s : ByteArray), (ns.foldl (fun r n => r.push (UInt8.ofNat n.toNat)) s).data.toList = s.data.toList ++ ns.map fun n => UInt8.ofNat n.toNat
  | [], s => by simp
  | n :: ns, s => by simp [bytes_fold ns]
theorem add_none (b o j : Nat) : (⟨b, o, none⟩ : Addr).add j = ⟨b, o + j, none⟩ := by unfold Addr.add; split <;> simp_all

section
variable {P : Program} {T : TT} {base : Nat} {M : Two} {W : World} {nt : Nat} {f : Nat → Option AV} {g : Nat → Option Ob} {c : Nat → Bool} {a : Act} {w : World} {D : Nat → Prop} {μ : Mu} {o : Oper}
theorem isU8_ok (hT : TsOk P T) {e : Nat} (h : isU8 T e = true) : P.underlying e = some (.int .u8) := by
  unfold isU8 at h
  split at h
  · rename_i i hi
    have := (hT e i hi).k
    split at h
    · rename_i hk; rw [hk] at this; exact this
    · cases h
  · cases h
theorem bytes_run (hT : TsOk P T) {s t e esz eb : Nat} {si ti : TI} (hs : T.find s = some si) (hsk : si.k = .slice e esz eb) (hu : isU8 T e = true) (ht : T.find t = some ti) (htk : ti.k = .str)
    (b o n cap : Nat) (k : Nat → Int) (hc : ∀ i, i < n → hcell w.heap b (o + i) = some (.int .u8 (k i))) :
    ∃ r : ByteArray, (convert s t (.slice (some ⟨b, o, none⟩) n cap)).run P w = .ok (.string r) w ∧ r.data.toList = bytesOf n k := by
  have h1 := (hT s si hs).k
  rw [hsk] at h1
  have h2 := (hT t ti ht).k
  rw [htk] at h2
  have hl := run_loadCells (P := P) w ⟨b, o, none⟩ n (fun i => .int .u8 (k i)) (fun j hj => by rw [add_none, cell_h]; exact hc j hj)
  have hl' : (loadCells ⟨b, o, none⟩ n).run P w = .ok (((List.range n).map k).map (Value.int .u8)).toArray w := by rw [hl]; simp
  refine ⟨_, by rw [run_convert_bytes_string w s t e _ n cap h1.1 (isU8_ok hT hu) h2, run_bytesToString w _ n cap _ hl'], ?_⟩
  rw [bytes_fold]
  simp [bytesOf, ByteArray.empty, ByteArray.emptyWithCapacity]
  rfl

variable (h : Sim base M W nt f g c a w D μ) (hd : ∀ d, o.dst = some d → d < nt)
include h hd

theorem says_conv (hT : TsOk P T) {s t : TypeId} {x : Operand} (e : o.op = .convert s t x) {vals : List AV} (hv : Ops w.heap D μ a [x] vals) {ob : Nat → Option Ob} (hob : ∀ id z, ob id = some z → g id = some z) :
    Says P base M W nt f g c o a w (cConv T std s t ob vals) := by
  match vals, hv with
  | [v], ⟨hv, _⟩ =>
    have run : ∀ u, (convert s t (a.eval x)).run P w = .ok u w → (execOp a.eval o).run P w = .ok (.value u) w := by
      intro u hu; unfold execOp; rw [e]; simp [hu]
    generalize a.eval x = u at *
    unfold cConv
    simp only
    split
    · rename_i si hsi
      obtain ⟨sd, hsd⟩ := (hT s si hsi).und
      split
      · rename_i ti hti
        have ok := (hT t ti hti).k
        split
        · rename_i k hk
          rw [hk] at ok
          split
          · rename_i k' n
            have := hv.inv_int
            subst this
            refine adv_value h hd (u := .int k (k.wrap n)) (run _ ?_) (.int _ _)
            simp only [convert, Sem.run_bind, run_underlying hsd, run_underlying ok, Result.andThen_ok]
            cases sd <;> rfl
          · trivial
        · rename_i hk
          rw [hk] at ok
          split
          · rename_i l
            have hv' := hv
            obtain ⟨r, rfl, rfl⟩ := hv.inv_str
            refine adv_value h hd (u := .string r) (run _ ?_) hv'
            simp only [convert, Sem.run_bind, run_underlying hsd, run_underlying ok, Result.andThen_ok]
            cases sd <;> rfl
          · split
            · rename_i e' esz eb hsk
              split
              · rename_i hu8
                have h1 := (hT s si hsi).k
                rw [hsk] at h1
                split
                · rename_i n get _
                  intro hp
                  have key : ∀ b o' cap, (∀ i, i < n → hcell w.heap b (o' + i) = some (.int .u8 (get i 0).toI)) → u = .slice (some ⟨b, o', none⟩) n cap →
                      Adv P base M W nt f g c o a w (.str (L2 std bytesOf n (fun i => (get i 0).toI))) [] [] := by
                    rintro b o' cap hc rfl
                    obtain ⟨r, hr1, hr2⟩ := bytes_run (P := P) (w := w) hT hsi hsk hu8 hti hk b o' n cap (fun i => (get i 0).toI) hc
                    exact adv_value h hd (run _ hr1) (.str _ _ hr2)
                  cases hv with
                  | lst0 _ _ ad cap hn =>
                    cases ad with
                    | none =>
                      refine adv_value h hd (u := .string .empty) (run _ ?_) (.str _ _ rfl)
                      rw [run_convert_bytes_string w s t e' none 0 cap h1.1 (isU8_ok hT hu8) ok]
                      rfl
                    | some ad =>
                      refine adv_value h hd (u := .string .empty) (run _ ?_) (.str _ _ rfl)
                      rw [run_convert_bytes_string w s t e' _ 0 cap h1.1 (isU8_ok hT hu8) ok]
                      rfl
                  | lst _ _ _ b o' cap vs hD hn hv h1' hr =>
                    refine key b o' cap (fun i hi => ?_) rfl
                    have h3 := hv i 0 hi (by omega)
                    have h4 := hr i 0 hi (by omega)
                    obtain ⟨q, hq⟩ := hp i hi
                    rw [hq] at h4 ⊢
                    rw [h4.inv_int] at h3
                    simpa [AV.toI] using h3
                · cases hv with
                  | nils =>
                    refine adv_value h hd (u := .string .empty) (run _ ?_) (.str _ _ rfl)
                    rw [run_convert_bytes_string w s t e' none 0 0 h1.1 (isU8_ok hT hu8) ok]
                    rfl
                · rename_i id off n _
                  split
                  · rename_i m get hob'
                    have hg := hob _ _ hob'
                    rintro ⟨hm0, hp⟩
                    have hm : off + n ≤ m := hm0
                    have empty : ∀ ad cap, n = 0 → u = .slice ad 0 cap → Adv P base M W nt f g c o a w (.str (L2 std bytesOf n (fun i => (get (off + i) 0).toI))) [] [] := by
                      rintro ad cap rfl rfl
                      refine adv_value h hd (u := .string .empty) (run _ ?_) (.str _ _ rfl)
                      rw [run_convert_bytes_string w s t e' _ 0 cap h1.1 (isU8_ok hT hu8) ok]
                      cases ad <;> rfl
                    cases hv with
                    | slv => exact empty _ _ rfl rfl
                    | sl0 => exact empty _ _ rfl rfl
                    | sl _ _ _ _ b z m' cap hμ hn hz ho =>
                      obtain ⟨_, cs, t', fr, hh, _, _, _, hrow⟩ := h.obs id _ _ hg hμ
                      obtain ⟨r, hr1, hr2⟩ := bytes_run (P := P) (w := w) hT hsi hsk hu8 hti hk b (off * 1) n cap (fun i => (get (off + i) 0).toI) (fun i hi => by
                        obtain ⟨y, hy1, _, hy2⟩ := hrow (off + i) 0 (by omega) (by omega)
                        obtain ⟨q, hq⟩ := hp i hi
                        rw [hq] at hy2 ⊢
                        rw [hy2.inv_int] at hy1
                        rw [hcell_of hh]
                        simpa [AV.toI] using hy1)
                      exact adv_value h hd (run _ hr1) (.str _ _ hr2)
                  · trivial
                · trivial
              · trivial
            · trivial
        · rename_i hk
          split
          · rename_i id el hpt
            split
            · rename_i ty cs ei hg hei
              have hg := hob _ _ hg
              split
              · rename_i hup hli hty hsz hpos
                obtain rfl := beq_eq hty
                have hsz := beq_eq hsz
                rw [llen_eq] at hsz
                cases hv with
                | ref _ _ b z m hμ =>
                  obtain ⟨C, t', fr, hh, hcs, ⟨_, rfl⟩, _, hr, _⟩ := h.obs id _ _ hg hμ
                  obtain ⟨j, zv, hj, hj2, _, _, hj5, _⟩ := (hT _ ei hei).info
                  have hsh : w.shape? b = some (t', C.size) := by simp [World.shape?, hh]
                  have hpos : 0 < ei.sz := blt_lt hpos
                  refine adv_value h hd (run _ (Lib.run_from_unsafe w (cells := C.size) ⟨b, 0, none⟩ ((hT s si hsi).upf hup) ((hT t ti hti).ptf _ hpt) hj hsh ?_)) (.ref id 0 b z m hμ)
                  have hc : P.cellsOf t' = ei.sz := by rw [Program.cellsOf, hj]; simpa using hj2
                  rw [hc, show C.size = ei.sz by rw [← hr, hsz], Nat.div_self hpos]
                  exact (hT _ ei hei).lief hli
              · trivial
            · trivial
          · trivial
        · rename_i hk
          split
          · rename_i id off el hpt
            split
            · rename_i ty cs ei hg hei
              have hg := hob _ _ hg
              split
              · rename_i hup hpos hoff
                have hpos := blt_lt hpos
                have hoff := blt_lt hoff
                rw [llen_eq] at hoff
                cases hv with
                | ref _ _ b z m hμ =>
                  obtain ⟨C, t', fr, hh, hcs, ⟨_, rfl⟩, _, hr, _⟩ := h.obs id _ _ hg hμ
                  obtain ⟨j, zv, hj, hj2, _⟩ := (hT _ ei hei).info
                  have hsh : w.shape? b = some (t', C.size) := by simp [World.shape?, hh]
                  exact adv_value h hd (run _ (Lib.run_to_unsafe w (cells := C.size) ⟨b, off, none⟩ ((hT s si hsi).ptf _ hpt) ((hT t ti hti).upf hup) hj (by rw [hj2]; omega) hsh (by show off < C.size; rw [← hr]; exact hoff))) (.ref id off b z m hμ)
              · trivial
            · trivial
          · trivial
        · trivial
      · trivial
    · trivial

theorem says_faddr (hT : TsOk P T) {t : TypeId} {x : Operand} {k : Nat} (e : o.op = .fieldAddr t x k) {vals : List AV} (hv : Ops w.heap D μ a [x] vals) : Says P base M W nt f g c o a w (cFaddr T t k vals) := by
  match vals, hv with
  | [v], ⟨hv, _⟩ =>
    have run : ∀ u, (Instr.fieldAt t (a.eval x) k).run P w = .ok u w → (execOp a.eval o).run P w = .ok (.value u) w := by
      intro u hu; unfold execOp; rw [e]; simp [hu]
    generalize a.eval x = u at *
    unfold cFaddr
    simp only
    split
    · rename_i sz ag ze fs eqf p1 p2 p3 hi
      have ok := (hT t _ hi).k
      obtain ⟨F, hF, hfs⟩ := ok
      split
      · rename_i hlt
        have hlt := blt_lt hlt
        rw [llen_eq] at hlt
        split
        · rename_i m hm
          have hk : k < F.size := by rw [← hfs] at hlt; simpa using hlt
          have hfd : lget (0, 0) fs k = (F[k].offset, F[k].type) := by
            rw [lget_eq]; simp [← hfs, List.getD, hk]
          rw [hfd] at hm ⊢
          have hsz : ∀ w' : World, (sizeOf F[k].type).run P w' = .ok (m + 1) w' := by
            intro w'
            unfold TT.sizeOf at hm
            split at hm
            · rename_i fi hfi
              injection hm with hmm
              have := (hT _ fi hfi).sizeOf w'
              rw [this, hmm]
            · cases hm
          have go : ∀ b o', u = .pointer (some ⟨b, o', none⟩) → (Instr.fieldAt t u k).run P w = .ok (.pointer (some ⟨b, o' + F[k].offset, none⟩)) w := by
            rintro b o' rfl
            simp [Instr.fieldAt, run_underlying hF, hk, Instr.sureAddr, fieldPlace, hsz, add_none]
          split
          · rename_i id off
            cases hv with
            | ref _ _ b z m hμ => exact adv_value h hd (run _ (go _ _ rfl)) (.ref _ _ b z m hμ)
          · rename_i id sz' i off
            cases hv with
            | eref _ _ _ _ b z m hμ hi' =>
              refine adv_value h hd (run _ (go _ _ rfl)) ?_
              rw [Nat.add_assoc]
              exact .eref _ _ _ _ b z m hμ hi'
          · rename_i n get
            cases hv with
            | iptr _ _ b o' vs hD hv h1 hr =>
              exact adv_value h hd (run _ (go _ _ rfl)) (.iptr _ _ b _ (fun j => vs (F[k].offset + j)) hD (fun j hj => by rw [Nat.add_assoc]; exact hv _ (by omega)) (fun j hj => h1 _ (by omega)) (fun j hj => hr _ (by omega)))
          · trivial
        · trivial
      · trivial
    · trivial

theorem says_field (hT : TsOk P T) {t : TypeId} {x : Operand} {k : Nat} (e : o.op = .field t x k) {vals : List AV} (hv : Ops w.heap D μ a [x] vals) : Says P base M W nt f g c o a w (cField T t k vals) := by
  match vals, hv with
  | [v], ⟨hv, _⟩ =>
    have run : ∀ u, (Instr.field t (a.eval x) k).run P w = .ok u w → (execOp a.eval o).run P w = .ok (.value u) w := by
      intro u hu; unfold execOp; rw [e]; simp [hu]
    generalize a.eval x = u at *
    unfold cField
    split
    · rename_i cs he
      simp only [List.cons.injEq, and_true] at he
      subst he
      obtain ⟨us, rfl, h1, hr⟩ := hv.inv_agg
      split
      · rename_i sz ag ze fs eqf p1 p2 p3 hi
        have ok := (hT t _ hi).k
        obtain ⟨F, hF, hfs⟩ := ok
        split
        · rename_i hlt
          have hlt := blt_lt hlt
          rw [llen_eq] at hlt
          have hk : k < F.size := by rw [← hfs] at hlt; simpa using hlt
          have hfd : lget (0, 0) fs k = (F[k].offset, F[k].type) := by
            rw [lget_eq]; simp [← hfs, List.getD, hk]
          rw [hfd]
          split
          · rename_i i hfi
            split
            · rename_i hle
              have hle := ble_le hle
              rw [llen_eq] at hle
              have go : ∀ u, (part F[k].type us F[k].offset).run P w = .ok u w → (Instr.field t (.agg us) k).run P w = .ok u w := by
                intro u hu
                simp [Instr.field, run_underlying hF, hk, asAgg, hu]
              split
              · rename_i hag
                obtain ⟨u, hu, r⟩ := part_run (P := P) hT hfi h1 hr F[k].offset hle (by rw [hag]; simp)
                rw [hag] at r
                exact adv_value h hd (run _ (go _ hu)) r
              · rename_i hag
                split
                · rename_i hs
                  obtain ⟨u, hu, r⟩ := part_run (P := P) hT hfi h1 hr F[k].offset hle (fun _ => beq_eq hs)
                  rw [hag] at r
                  exact adv_value h hd (run _ (go _ hu)) r
                · trivial
            · trivial
          · trivial
        · trivial
      · trivial
    · trivial
end

end Sy
end Go.Proofs.YtckbbcjbbmgmoaaDoor
