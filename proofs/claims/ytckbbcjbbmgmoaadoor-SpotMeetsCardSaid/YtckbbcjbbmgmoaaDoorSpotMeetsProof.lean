/- The law outriderlaw04.SpotMeets: for every input it answers true, and each argument reads behind the call as it did. No condition. -/
import Derived.Test.YtckbbcjbbmgmoaaDoorLwSp
import Derived.Test.YtckbbcjbbmgmoaaDoorTie
import Derived.Test.YtckbbcjbbmgmoaaDoorCards
import Derived.Test.YtckbbcjbbmgmoaaDoorGlL
import Derived.SevenTiedAt
namespace Go.Proofs.YtckbbcjbbmgmoaaDoor.spotMeets
open Go.ChangeShapes Go.WideShapes Go.ChangeAt Go.RowKit
open Go.ChangeMaps (open_string)
theorem gok {W : World} (h : laidMetH Tryd.prog Rows.spotMeetsRow.laid W) : Sy.GOk W := by
  rw [MakeChecks.laidMetH_plain _ _ _ (by kernel_rfl)] at h
  refine Sy.GOk_of ?_ ?_ ?_
  · have e : (Rows.laid_internal_strconv_uint64pow10 : DataW Unit) = Lib.tabData .u64 Lib.pow10Tab := by kernel_rfl
    have hm : ("internal/strconv.uint64pow10", Lib.tabData .u64 Lib.pow10Tab) ∈ Rows.spotMeetsRow.laid := by
      rw [← e]
      simp only [Rows.spotMeetsRow]
      repeat (first | exact List.mem_cons_self | apply List.mem_cons_of_mem)
    exact Sy.laid_tab h hm (g := 1) (t := 93) (e := 44) (n := 20) (by kernel_rfl) (by kernel_rfl) Tryd.underlying93 Tryd.underlying44 (by kernel_rfl) (by kernel_rfl)
  · exact Sy.laid_ifc h (g := 2) (t := 63) (by simp only [Rows.spotMeetsRow, Rows.laid_strconv_ErrSyntax]; repeat (first | exact List.mem_cons_self | apply List.mem_cons_of_mem)) (by kernel_rfl) (by kernel_rfl) Tryd.underlying63
  · exact Sy.laid_ifc h (g := 3) (t := 63) (by simp only [Rows.spotMeetsRow, Rows.laid_strconv_ErrRange]; repeat (first | exact List.mem_cons_self | apply List.mem_cons_of_mem)) (by kernel_rfl) (by kernel_rfl) Tryd.underlying63
set_option linter.unusedVariables false

theorem own : ownKnob Tryd.prog.godebug = none := by kernel_rfl
set_option maxRecDepth 100000 in
theorem lifted (os : Os) (started : os.Started) (H : Type) (enc : TypeId × Value → H) :
    ReturnsInHanded {} Tryd.checked os 6 .any (fun w args => (Rows.spotMeetsSpec.pre enc Tryd.prog Tryd.f6 [] false w args ∧ laidMetH Tryd.prog Rows.spotMeetsRow.laid w) ∧ sizedMet enc Tryd.prog Tryd.f6 (OpenSpec.ofChange Rows.spotMeetsSpec) false w args)
      (Rows.spotMeetsSpec.post enc Tryd.prog Tryd.f6 false true false false) := by
  refine returnsInHanded_of_change_and (C := Tryd.checked) (X := fun w _ => laidMetH Tryd.prog Rows.spotMeetsRow.laid w) (fun _ _ _ hh h => h.of_heap hh) own started (by kernel_rfl) Tryd.func6
    (ChangeSpec.witness_shaped (enc := enc) (C := Tryd.checked) (os := os) (X := fun w _ => laidMetH Tryd.prog Rows.spotMeetsRow.laid w) false (World.laidAll Tryd.prog os Rows.spotMeetsRow.laid) #[.agg #[.int .u8 0, .int .u8 0, .int .u8 0, .int .u8 0, .int .u16 0], .agg #[.int .u8 0, .int .u8 0, .int .u8 0, .int .u8 0, .int .u16 0], .string ByteArray.empty] 8 (World.laidAll_os _ _ _)
      (World.shaped_of_ZipB (by kernel_rfl) (by kernel_rfl)) (by kernel_rfl) (by kernel_rfl) (by kernel_rfl)
      (by rw [MakeChecks.laidMetH_plain _ _ _ (by kernel_rfl)]; exact laidMet_laidAll _ (by kernel_rfl) (by kernel_rfl))) ?_
  intro W base args ds gs before hval0 hW hcnd _ hL hsz0
  have hval : ∀ (j : Nat) t v, Tryd.f6.params[j]? = some t → args[j]? = some v → Value.okWide Tryd.prog W .any base t v := hval0
  have hW' := hW
  obtain ⟨p, q, hA0, hV, rfl, hfz, hnd⟩ := hW
  have hA : DataW.TrodAll enc Tryd.prog W 0 (fun _ => true) true Tryd.f6.params.toList args.toList ds p := hA0
  rw [Tryd.params6] at hA hval
  obtain ⟨v0, vs0, d0, ds0, p0, q0, hargs, rfl, rfl, h0, r0⟩ := trodAll_cons hA
  obtain ⟨v1, vs1, d1, ds1, p1, q1, rfl, rfl, rfl, h1, r1⟩ := trodAll_cons r0
  obtain ⟨v2, vs2, d2, ds2, p2, q2, rfl, rfl, rfl, h2, r2⟩ := trodAll_cons r1
  obtain ⟨rfl, rfl, rfl⟩ := trodAll_nil r2
  obtain rfl : args = #[v0, v1, v2] := by cases args; simp_all
  obtain ⟨rfl, rfl⟩ := trodVars_none hV
  obtain ⟨cs0, rfl, _⟩ := okWide_struct Tryd.underlying25 (hval 0 25 v0 rfl rfl)
  obtain ⟨y0, k0, z0⟩ := Sy.open_agg (Sy.opens_Pl) h0
  obtain ⟨cs1, rfl, _⟩ := okWide_struct Tryd.underlying25 (hval 1 25 v1 rfl rfl)
  obtain ⟨y1, k1, z1⟩ := Sy.open_agg (Sy.opens_Pl) h1
  obtain ⟨x2, rfl⟩ := okWide_string Tryd.underlying9 (hval 2 9 v2 rfl rfl)
  obtain ⟨y2, k2, z2⟩ := Sy.open_one (Sy.opens_str Tryd.underlying9 (by kernel_rfl)) rfl h2
  clear hA0 hval0
  simp only [List.append_nil] at hW'
  refine (Sy.law_of_ac (fn := Tryd.f6) rfl rfl (by kernel_rfl) (Sy.law_SpotMeets y0 k0 y1 k1 y2 k2) (Sy.DW W) W (fun _ h => h) (Sy.rl_of z0 (Sy.rl_of z1 (Sy.rl_of z2 Sy.rl_nil))) (gok hL)).mono fun e W' ⟨he, hg⟩ => ?_
  subst he
  exact ⟨_, rfl, post_law (tb := 4) (by kernel_rfl) (by kernel_rfl) rfl Tryd.underlying4 rfl hW' rfl hg⟩

theorem over : Rows.spotMeetsRow.holds Tryd.pinned (OpenSpec.ofChange Rows.spotMeetsSpec) :=
  OpenClaim.holds_of_wide 6 Tryd.f6 rfl rfl rfl rfl rfl rfl rfl ⟨rfl, rfl, rfl, rfl, rfl⟩ rfl rfl rfl rfl rfl (by kernel_rfl) Tryd.func6 (by kernel_rfl)
    (of_decide_eq_true (by kernel_rfl)) (by unfold Func.isWrapper; first | (rw [if_pos (by decide +kernel)]; kernel_rfl) | (rw [if_neg (by decide +kernel)]; exact ⟨rfl, rfl⟩))
    (fun os started H enc _ => lifted os started H enc)

/-- The statement. -/
theorem proved : Rows.SpotMeetsCardSaid :=
  Claim7.holds_tied_plain_at .later [] [.data, .data, .data, .data, .sentinel, .sentinel, .pinned] true (true, "49ed6cd99345a6e264ffd4c5a15f3b829ae333decfaf3bd34a2a82f50465744a") true
    over (fun _ h => by cases h) (by kernel_rfl) (fun _ h => by cases h) spotMeets_row_tie rfl ⟨rfl, rfl⟩ (by kernel_rfl) rfl
    (fun f fn hf hfn => by
      obtain rfl : f = 6 := Option.some.inj ((show Tryd.prog.funcNamed "outrider/outriderlaw04.SpotMeets" = some 6 by kernel_rfl).symm.trans hf) |>.symm
      obtain rfl : fn = Tryd.f6 := (Option.some.inj (Tryd.func6.symm.trans hfn)).symm
      exact ⟨by kernel_rfl, fun j t ht => by
        have hm : t ∈ Tryd.f6.params.toList := by simpa using Array.mem_of_getElem? ht
        have hall : (Tryd.f6.params.toList.all fun u => !Tryd.prog.wantsStandIn u) = true := by kernel_rfl
        exact (show Tryd.prog.wantsStandIn t = false by simpa using List.all_eq_true.1 hall t hm)⟩)
    (by kernel_rfl)
#print axioms proved
end Go.Proofs.YtckbbcjbbmgmoaaDoor.spotMeets
