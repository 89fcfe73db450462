/- Go's strings.Builder: what it writes. -/
import Derived.Test.YthlggigjnpldcaaAcB
import Derived.Lib.Builder
namespace Go.Proofs.Ythlggigjnpldcaa
namespace Sy
open Go Go.RowKit
set_option maxRecDepth 100000
set_option linter.unusedSimpArgs false
set_option linter.unusedVariables false

/-- A pointer as it is. -/
def noEsc_m : EntM := (104, fun raw ob => match raw with
  | [.ref id 0] => match ob id with
    | some (.box ty cs) => some ⟨[.ref 500000 0], [(500000, .box ty cs)], True, .ref 500000 0, [(500000, .box ty cs)]⟩
    | _ => none
  | _ => none)
theorem noEsc_good : GoodM Try.prog noEsc_m := by
  intro raw ob T hT hp
  unfold noEsc_m at hT
  simp only at hT
  split at hT
  · split at hT
    · cases hT
      intro D w μ vs hD hxs hdom hobs hinj hown
      obtain ⟨v, hv⟩ : ∃ v, vs.toList = [v] := List.length_eq_one_iff.1 (by simpa using hxs.1.symm)
      have : vs = #[v] := by rw [← Array.toArray_toList (xs := vs), hv]
      subst this
      unfold CallTo
      rw [show noEsc_m.fst = 104 from rfl, run_callFunc_extern (fn := Try.f104) rfl (by kernel_rfl) (by kernel_rfl) (by kernel_rfl) (e := Extern.AbiNoEscape.same) (by kernel_rfl)]
      rw [Lib.run_noEscape]
      exact ⟨v, D, μ, { ret := rfl, os := rfl, tape := rfl, output := rfl, size := Nat.le_refl _, old := fun _ _ _ => rfl, up := fun _ h => h, dn := fun _ h => .inl h, dom := hdom, obs := hobs, inj := hinj, own := fun n b z h => ⟨(hown n b z h).1, (hown n b z h).2, .inr ⟨n, z, h⟩⟩, keep := fun _ _ _ => rfl, val := hxs.2 0 _ _ rfl rfl }⟩
    · cases hT
  · cases hT

def cc_m : EntM := (90, fun raw ob => match raw with
  | [.ref id 0] => match ob id with
    | some (.box _ [.nilp, .nils]) => some ⟨[.ref 500000 0], [(500000, .box 103 [.nilp, .nils])], True, .tup [], [(500000, .box 103 [.ref 500000 0, .nils])]⟩
    | some (.box _ [.ref _ 0, .sl k 1 0 n]) => match ob k with
      | some (.row _ 1 m get) => some ⟨[.ref 500000 0], [(500000, .box 103 [.ref 500000 0, .sl 500001 1 0 m]), (500001, .row 5 1 m get)], True, .tup [], [(500000, .box 103 [.ref 500000 0, .sl 500001 1 0 m]), (500001, .row 5 1 m get)]⟩
      | _ => none
    | _ => none
  | _ => none)
theorem cc_new : MCalls Try.prog 90 [.ref 500000 0] [(500000, .box 103 [.nilp, .nils])] (.tup []) [(500000, .box 103 [.ref 500000 0, .nils])] := by
  refine mcalls_L (T := tt) (S := fun L => sumOfM [] [noEsc_m]) (lo := noA) (lb := noA) 5 (fn := Try.f90) (xs := fun L => [.ref 500000 0]) (rts := fun _ => []) (O := fun L => [(500000, .box 103 [.nilp, .nils])]) (O1 := fun L => [(500000, .box 103 [.ref 500000 0, .nils])])
    rfl rfl (by kernel_rfl) (by kernel_rfl) (by kernel_rfl) tt_ok (sumOfM_ok trivial ⟨noEsc_good, trivial⟩) (by kernel_rfl) ?_
  intro L P' Q' hL hP hQ
  (cbv; try simp only [sat_need, sat_must, sat_ite, sat_done, sat_yes, sat_ex, sat_all, sat_sup, sat_and, sat_fail, true_and, and_true])
  exact ⟨fun _ => trivial, fun h => by cases h⟩
theorem cc_old (m : Nat) (get : Nat → Nat → AV) : MCalls Try.prog 90 [.ref 500000 0] [(500000, .box 103 [.ref 500000 0, .sl 500001 1 0 m]), (500001, .row 5 1 m get)] (.tup []) [(500000, .box 103 [.ref 500000 0, .sl 500001 1 0 m]), (500001, .row 5 1 m get)] := by
  refine mcalls_L (T := tt) (S := fun L => sumOfM [] [noEsc_m]) (lo := noA) (lb := noA) 5 (fn := Try.f90) (xs := fun L => [.ref 500000 0]) (rts := fun _ => []) (O := fun L => [(500000, .box 103 [.ref 500000 0, .sl 500001 1 0 m]), (500001, .row 5 1 m get)]) (O1 := fun L => [(500000, .box 103 [.ref 500000 0, .sl 500001 1 0 m]), (500001, .row 5 1 m get)])
    rfl rfl (by kernel_rfl) (by kernel_rfl) (by kernel_rfl) tt_ok (sumOfM_ok trivial ⟨noEsc_good, trivial⟩) (by kernel_rfl) ?_
  intro L P' Q' hL hP hQ
  (cbv; try simp only [sat_need, sat_must, sat_ite, sat_done, sat_yes, sat_ex, sat_all, sat_sup, sat_and, sat_fail, true_and, and_true])
  subst hL
  simp [std]
theorem cc_good : GoodM Try.prog cc_m := by
  intro raw ob T hT hp
  unfold cc_m at hT
  simp only at hT
  repeat' split at hT
  all_goals first | (cases hT; done) | (cases hT; exact cc_new) | (cases hT; exact cc_old _ _)

/-! ### What a builder holds -/
def bld (L : Seal) (l : List UInt8) : List (Nat × Ob) := [(500000, .box 103 [.ref 500000 0, .sl 500001 1 0 (L lenN l)]), (500001, .row 5 1 (L lenN l) (fun i _ => .int .u8 (L2 L byteAt l i)))]
def bldN (L : Seal) (l : List UInt8) : List (Nat × Ob) := [(500000, .box 103 [.ref 500000 0, .sl 7 1 0 (L lenN l)]), (7, .row 5 1 (L lenN l) (fun i _ => .int .u8 (L2 L byteAt l i)))]
def bld0 : List (Nat × Ob) := [(500000, .box 103 [.nilp, .nils])]
/-- What a builder of the caller's holds: none: it isn't written yet. -/
def bldOf (L : Seal) (ob : Nat → Option Ob) (id : Nat) : Option (Option (List UInt8)) := match ob id with
  | some (.box _ [.nilp, .nils]) => some none
  | some (.box _ [.ref _ 0, .sl k 1 0 n]) => match ob k with
    | some (.row _ 1 m get) => some (some (L2 L bytesOf m (fun i => (get i 0).toI)))
    | _ => none
  | _ => none
def bytesAdd (l m : List UInt8) : List UInt8 := l ++ m
def byte1 (c : Int) : List UInt8 := [UInt8.ofNat c.toNat]
def u8Ok (c : Int) : Prop := 0 ≤ c ∧ c < 256
def roomB (l m : List UInt8) : Prop := l.length + m.length ≤ 90000000
def wb_m (L : Seal) : EntM := (83, fun raw ob => match raw with
  | [.ref id 0, .int .u8 c] => match bldOf L ob id with
    | some none => some ⟨[.ref 500000 0, .int .u8 c], bld0, L u8Ok c, .dead, bldN L (L byte1 c)⟩
    | some (some l) => some ⟨[.ref 500000 0, .int .u8 c], bld L l, L u8Ok c ∧ L2 L roomB l (L byte1 c), .dead, bldN L (L2 L bytesAdd l (L byte1 c))⟩
    | none => none
  | _ => none)
def ws_m (L : Seal) : EntM := (62, fun raw ob => match raw with
  | [.ref id 0, .str s] => match bldOf L ob id with
    | some (some l) => some ⟨[.ref 500000 0, .str s], bld L l, L2 L roomB l s, .tup [.int .i64 (L slen s), .dead], bldN L (L2 L bytesAdd l s)⟩
    | _ => none
  | _ => none)
def bs_m (L : Seal) : EntM := (50, fun raw ob => match raw with
  | [.ref id 0] => match bldOf L ob id with
    | some (some l) => some ⟨[.ref 500000 0], bld L l, L (fun l => l ≠ [] ∧ l.length ≤ 90000000) l, .str l, []⟩
    | _ => none
  | _ => none)
def bl_m (L : Seal) : EntM := (49, fun raw ob => match raw with
  | [.ref id 0] => match bldOf L ob id with
    | some (some l) => some ⟨[.ref 500000 0], bld L l, True, .int .i64 (L slen l), bld L l⟩
    | _ => none
  | _ => none)
theorem byteAt_l {l m : List UInt8} {i : Nat} (h : i < l.length) : byteAt (l ++ m) i = byteAt l i := by
  simp [byteAt, List.getElem?_append_left h]
theorem byteAt_r {l m : List UInt8} {i : Nat} (h : ¬ i < l.length) : byteAt (l ++ m) i = byteAt m (i - l.length) := by
  simp [byteAt, List.getElem?_append_right (show l.length ≤ i by omega)]
theorem bytesOf_at (l : List UInt8) : bytesOf l.length (fun i => byteAt l i) = l := by
  apply List.ext_getElem
  · simp [bytesOf]
  · intro i h1 h2
    simp [bytesOf, byteAt, h2]
theorem byte1_at {c : Int} (hc : u8Ok c) (i : Nat) (h : i < 1) : nthI [c] i = byteAt (byte1 c) i := by
  have : i = 0 := by omega
  subst this
  obtain ⟨h0, h1⟩ := hc
  simp [nthI, byteAt, byte1, UInt8.toNat_ofNat']
  omega
theorem wb_new (c : Int) (hc : u8Ok c) : MCalls Try.prog 83 [.ref 500000 0, .int .u8 c] bld0 .dead (bldN std (byte1 c)) := by
  refine mcalls_L (T := tt) (S := fun L => sumOfM [] [cc_m]) (lo := noA) (lb := noA) 5 (fn := Try.f83) (xs := fun L => [.ref 500000 0, .int .u8 c]) (rts := fun _ => [.dead]) (O := fun L => bld0) (O1 := fun L => bldN L (L byte1 c))
    rfl rfl (by kernel_rfl) (by kernel_rfl) (by kernel_rfl) tt_ok (sumOfM_ok trivial ⟨cc_good, trivial⟩) (by kernel_rfl) ?_
  intro L P' Q' hL hP hQ
  (cbv; try simp only [sat_need, sat_must, sat_ite, sat_done, sat_yes, sat_ex, sat_all, sat_sup, sat_and, sat_fail, true_and, and_true])
  subst hL
  simp only [L2, L3, std, roomOk_t]
  have h1 : lenN (byte1 c) = 1 := rfl
  rw [h1]
  exact ⟨by omega, ⟨rfl, fun i j hi hj => by rw [show Nat.add 0 i = i from Nat.zero_add i, byte1_at hc i hi]⟩, rfl⟩
theorem wb_old (l : List UInt8) (c : Int) (hc : u8Ok c) (hl : roomB l (byte1 c)) : MCalls Try.prog 83 [.ref 500000 0, .int .u8 c] (bld std l) .dead (bldN std (bytesAdd l (byte1 c))) := by
  refine mcalls_L (T := tt) (S := fun L => sumOfM [] [cc_m]) (lo := noA) (lb := noA) 5 (fn := Try.f83) (xs := fun L => [.ref 500000 0, .int .u8 c]) (rts := fun _ => [.dead]) (O := fun L => bld L l) (O1 := fun L => bldN L (L2 L bytesAdd l (L byte1 c)))
    rfl rfl (by kernel_rfl) (by kernel_rfl) (by kernel_rfl) tt_ok (sumOfM_ok trivial ⟨cc_good, trivial⟩) (by kernel_rfl) ?_
  intro L P' Q' hL hP hQ
  (cbv; try simp only [sat_need, sat_must, sat_ite, sat_done, sat_yes, sat_ex, sat_all, sat_sup, sat_and, sat_fail, true_and, and_true])
  subst hL
  simp only [L2, L3, std, roomOk_t]
  have h1 : lenN (bytesAdd l (byte1 c)) = l.length + 1 := by simp [lenN, bytesAdd, byte1]
  have h2 : (byte1 c).length = 1 := rfl
  have hl : l.length + (byte1 c).length ≤ 90000000 := hl
  have h3 : lenN l = l.length := rfl
  rw [h1, h3]
  refine ⟨fun _ _ _ _ => trivial, by omega, ⟨rfl, fun i j hi hj => ?_⟩, rfl⟩
  by_cases h : i < l.length
  · rw [blt_t h, show bytesAdd l (byte1 c) = l ++ byte1 c from rfl, byteAt_l h]; rfl
  · rw [blt_f h, show bytesAdd l (byte1 c) = l ++ byte1 c from rfl, byteAt_r h]
    show AV.int .u8 (nthI [c] (Nat.add 0 (i - l.length))) = _
    rw [show Nat.add 0 (i - l.length) = i - l.length from Nat.zero_add _, byte1_at hc _ (by omega)]
theorem ws_old (l s : List UInt8) (hl : roomB l s) : MCalls Try.prog 62 [.ref 500000 0, .str s] (bld std l) (.tup [.int .i64 (slen s), .dead]) (bldN std (bytesAdd l s)) := by
  refine mcalls_L (T := tt) (S := fun L => sumOfM [] [cc_m]) (lo := noA) (lb := noA) 5 (fn := Try.f62) (xs := fun L => [.ref 500000 0, .str s]) (rts := fun L => [.int .i64 (L slen s), .dead]) (O := fun L => bld L l) (O1 := fun L => bldN L (L2 L bytesAdd l s))
    rfl rfl (by kernel_rfl) (by kernel_rfl) (by kernel_rfl) tt_ok (sumOfM_ok trivial ⟨cc_good, trivial⟩) (by kernel_rfl) ?_
  intro L P' Q' hL hP hQ
  (cbv; try simp only [sat_need, sat_must, sat_ite, sat_done, sat_yes, sat_ex, sat_all, sat_sup, sat_and, sat_fail, true_and, and_true])
  subst hL
  simp only [L2, L3, std, roomOk_t]
  have h1 : lenN (bytesAdd l s) = l.length + s.length := by simp [lenN, bytesAdd]
  have hl : l.length + s.length ≤ 90000000 := hl
  have h3 : lenN l = l.length := rfl
  rw [h1, h3]
  refine ⟨fun _ _ _ _ => trivial, by omega, ⟨rfl, fun i j hi hj => ?_⟩, rfl⟩
  by_cases h : i < l.length
  · rw [blt_t h, show bytesAdd l s = l ++ s from rfl, byteAt_l h]; rfl
  · rw [blt_f h, show bytesAdd l s = l ++ s from rfl, byteAt_r h]; rfl
theorem bs_old (l : List UInt8) (h0 : l ≠ []) (hl : l.length ≤ 90000000) : MCalls Try.prog 50 [.ref 500000 0] (bld std l) (.str l) [] := by
  refine mcalls_L (T := tt) (S := fun L => sumOfM [] [cc_m]) (lo := noA) (lb := noA) 5 (fn := Try.f50) (xs := fun L => [.ref 500000 0]) (rts := fun L => [.str l]) (O := fun L => bld L l) (O1 := fun L => [])
    rfl rfl (by kernel_rfl) (by kernel_rfl) (by kernel_rfl) tt_ok (sumOfM_ok trivial ⟨cc_good, trivial⟩) (by kernel_rfl) ?_
  intro L P' Q' hL hP hQ
  (cbv; try simp only [sat_need, sat_must, sat_ite, sat_done, sat_yes, sat_ex, sat_all, sat_sup, sat_and, sat_fail, true_and, and_true])
  subst hL
  simp only [L2, L3, std]
  have h3 : lenN l = l.length := rfl
  have h1 : 0 < l.length := List.length_pos_iff.2 h0
  refine ⟨blt_t h1, ⟨by show (0 : Int) < (l.length : Int); omega, by show (l.length : Int) ≤ (l.length : Int); omega, by show (l.length : Int) ≤ _; omega, fun i hi => ⟨_, rfl, ?_, ?_⟩⟩, bytesOf_at l⟩
  · simp [byteAt]
  · have := UInt8.toNat_lt (l.getD i 0)
    show ((l.getD i 0).toNat : Int) < 256
    omega
theorem bl_old (l : List UInt8) : MCalls Try.prog 49 [.ref 500000 0] (bld std l) (.int .i64 (slen l)) (bld std l) := by
  refine mcalls_L (T := tt) (S := fun L => sumOfM [] [cc_m]) (lo := noA) (lb := noA) 5 (fn := Try.f49) (xs := fun L => [.ref 500000 0]) (rts := fun L => [.int .i64 (L slen l)]) (O := fun L => bld L l) (O1 := fun L => bld L l)
    rfl rfl (by kernel_rfl) (by kernel_rfl) (by kernel_rfl) tt_ok (sumOfM_ok trivial ⟨cc_good, trivial⟩) (by kernel_rfl) ?_
  intro L P' Q' hL hP hQ
  (cbv; try simp only [sat_need, sat_must, sat_ite, sat_done, sat_yes, sat_ex, sat_all, sat_sup, sat_and, sat_fail, true_and, and_true])
  subst hL
  exact ⟨fun _ _ _ _ => trivial, rfl⟩
theorem wb_good : GoodM Try.prog (wb_m std) := by
  intro raw ob T hT hp
  unfold wb_m at hT
  simp only at hT
  repeat' split at hT
  all_goals first | (cases hT; done) | (cases hT; exact wb_new _ hp) | (cases hT; exact wb_old _ _ hp.1 hp.2)
theorem ws_good : GoodM Try.prog (ws_m std) := by
  intro raw ob T hT hp
  unfold ws_m at hT
  simp only at hT
  repeat' split at hT
  all_goals first | (cases hT; done) | (cases hT; exact ws_old _ _ hp)
theorem bs_good : GoodM Try.prog (bs_m std) := by
  intro raw ob T hT hp
  unfold bs_m at hT
  simp only at hT
  repeat' split at hT
  all_goals first | (cases hT; done) | (cases hT; exact bs_old _ hp.1 hp.2)
theorem bl_good : GoodM Try.prog (bl_m std) := by
  intro raw ob T hT hp
  unfold bl_m at hT
  simp only at hT
  repeat' split at hT
  all_goals first | (cases hT; done) | (cases hT; exact bl_old _)
end Sy
end Go.Proofs.Ythlggigjnpldcaa
