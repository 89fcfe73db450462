/- The law outriderlaw09.ConfigFinds: for every input it answers true, and each argument reads behind the call as it did. No condition. -/
import Derived.Test.YtfonekpmkdkgnaaGreatDoorM6
import Derived.Test.YtfonekpmkdkgnaaGreatDoorTie
import Derived.Test.YtfonekpmkdkgnaaGreatDoorCards
import Derived.SevenTiedAt
namespace Go.Proofs.YtfonekpmkdkgnaaGreatDoor.configFinds
open Go.ChangeShapes Go.WideShapes Go.ChangeAt Go.RowKit
open Go.ChangeMaps (open_string)
theorem gok {W : World} (h : laidMetH Tryz.prog Rows.configFindsRow.laid W) (hsh : W.ShapedOpen Tryz.prog) : Sy.GOk W := by
  rw [MakeChecks.laidMetH_plain _ _ _ (by kernel_rfl)] at h
  refine Sy.GOk_of ?_ ?_ ?_ (Sy.max_is hsh ?_)
  · have e : (Rows.laid_internal_strconv_uint64pow10 : DataW Unit) = Lib.tabData .u64 Lib.pow10Tab := by kernel_rfl
    have hm : ("internal/strconv.uint64pow10", Lib.tabData .u64 Lib.pow10Tab) ∈ Rows.configFindsRow.laid := by
      rw [← e]
      simp only [Rows.configFindsRow]
      repeat (first | exact List.mem_cons_self | apply List.mem_cons_of_mem)
    exact Sy.laid_tab h hm (g := 3) (t := 260) (e := 22) (n := 20) (by kernel_rfl) (by kernel_rfl) Tryz.underlying260 Tryz.underlying22 (by kernel_rfl) (by kernel_rfl)
  · exact Sy.laid_ifc h (g := 1) (t := 177) (by simp only [Rows.configFindsRow, Rows.laid_strconv_ErrSyntax]; repeat (first | exact List.mem_cons_self | apply List.mem_cons_of_mem)) (by kernel_rfl) (by kernel_rfl) Tryz.underlying177
  · exact Sy.laid_ifc h (g := 2) (t := 177) (by simp only [Rows.configFindsRow, Rows.laid_strconv_ErrRange]; repeat (first | exact List.mem_cons_self | apply List.mem_cons_of_mem)) (by kernel_rfl) (by kernel_rfl) Tryz.underlying177
  · intro g hg
    obtain rfl : g = 0 := (Option.some.inj ((show Tryz.prog.globalNamed "internal/bytealg.MaxLen" = some 0 by kernel_rfl).symm.trans hg)).symm
    exact ⟨#[.int .i64 0], 3, of_decide_eq_true (by kernel_rfl), by kernel_rfl, rfl, by kernel_rfl, by kernel_rfl, Tryz.underlying3⟩
set_option linter.unusedVariables false

theorem own : ownKnob Tryz.prog.godebug = none := by kernel_rfl
set_option maxRecDepth 100000 in
theorem lifted (os : Os) (started : os.Started) (H : Type) (enc : TypeId × Value → H) :
    ReturnsInHanded {} Tryz.checked os 3 .any (fun w args => (Rows.configFindsSpec.pre enc Tryz.prog Tryz.f3 [] false w args ∧ laidMetH Tryz.prog Rows.configFindsRow.laid w) ∧ sizedMet enc Tryz.prog Tryz.f3 (OpenSpec.ofChange Rows.configFindsSpec) false w args)
      (Rows.configFindsSpec.post enc Tryz.prog Tryz.f3 false true false false) := by
  refine Sy.returns_and_shaped (C := Tryz.checked) (X := fun w _ => laidMetH Tryz.prog Rows.configFindsRow.laid w) (fun _ _ _ hh h => h.of_heap hh) own started (by kernel_rfl) Tryz.func3
    (ChangeSpec.witness_shaped (enc := enc) (C := Tryz.checked) (os := os) (X := fun w _ => laidMetH Tryz.prog Rows.configFindsRow.laid w) false (World.laidAll Tryz.prog os Rows.configFindsRow.laid) #[.agg #[.int .u64 0, .slice none 0 0, .slice none 0 0], .agg #[.int .u64 0, .slice none 0 0, .slice none 0 0], .string ByteArray.empty] 8 (World.laidAll_os _ _ _)
      (World.shaped_of_ZipB (by kernel_rfl) (by kernel_rfl)) (by kernel_rfl) (by kernel_rfl) (by kernel_rfl)
      (by rw [MakeChecks.laidMetH_plain _ _ _ (by kernel_rfl)]; exact laidMet_laidAll _ (by kernel_rfl) (by kernel_rfl))) ?_
  intro W base args ds gs before hval0 hW hcnd _ hL hSh hsz0
  have hval : ∀ (j : Nat) t v, Tryz.f3.params[j]? = some t → args[j]? = some v → Value.okWide Tryz.prog W .any base t v := hval0
  have hW' := hW
  obtain ⟨p, q, hA0, hV, rfl, hfz, hnd⟩ := hW
  have hA : DataW.TrodAll enc Tryz.prog W 0 (fun _ => true) true Tryz.f3.params.toList args.toList ds p := hA0
  rw [Tryz.params3] at hA hval
  obtain ⟨v0, vs0, d0, ds0, p0, q0, hargs, rfl, rfl, h0, r0⟩ := trodAll_cons hA
  obtain ⟨v1, vs1, d1, ds1, p1, q1, rfl, rfl, rfl, h1, r1⟩ := trodAll_cons r0
  obtain ⟨v2, vs2, d2, ds2, p2, q2, rfl, rfl, rfl, h2, r2⟩ := trodAll_cons r1
  obtain ⟨rfl, rfl, rfl⟩ := trodAll_nil r2
  obtain rfl : args = #[v0, v1, v2] := by cases args; simp_all
  obtain ⟨rfl, rfl⟩ := trodVars_none hV
  obtain ⟨cs0, rfl, _⟩ := okWide_struct Tryz.underlying26 (hval 0 26 v0 rfl rfl)
  obtain ⟨y0, k0, z0⟩ := Sy.open_agg (Sy.opens_Cf) h0
  obtain ⟨cs1, rfl, _⟩ := okWide_struct Tryz.underlying26 (hval 1 26 v1 rfl rfl)
  obtain ⟨y1, k1, z1⟩ := Sy.open_agg (Sy.opens_Cf) h1
  obtain ⟨x2, rfl⟩ := okWide_string Tryz.underlying9 (hval 2 9 v2 rfl rfl)
  obtain ⟨y2, k2, z2⟩ := Sy.open_one (Sy.opens_str Tryz.underlying9 (by kernel_rfl)) rfl h2
  clear hA0 hval0
  simp only [List.append_nil] at hW'
  refine (Sy.law_of_ac (fn := Tryz.f3) rfl rfl (by kernel_rfl) (Sy.law_ConfigFinds y0 k0 y1 k1 y2 k2) (Sy.DW W) W (fun _ h => h) (Sy.rl_of z0 (Sy.rl_of z1 (Sy.rl_of z2 Sy.rl_nil))) (gok hL hSh)).mono fun e W' ⟨he, hg⟩ => ?_
  subst he
  exact ⟨_, rfl, post_law (tb := 4) (by kernel_rfl) (by kernel_rfl) rfl Tryz.underlying4 rfl hW' rfl hg⟩

theorem over : Rows.configFindsRow.holds Tryz.pinned (OpenSpec.ofChange Rows.configFindsSpec) :=
  OpenClaim.holds_of_wide 3 Tryz.f3 rfl rfl rfl rfl rfl rfl rfl ⟨rfl, rfl, rfl, rfl, rfl⟩ rfl rfl rfl rfl rfl (by kernel_rfl) Tryz.func3 (by kernel_rfl)
    (of_decide_eq_true (by kernel_rfl)) (by unfold Func.isWrapper; first | (rw [if_pos (by decide +kernel)]; kernel_rfl) | (rw [if_neg (by decide +kernel)]; exact ⟨rfl, rfl⟩))
    (fun os started H enc _ => lifted os started H enc)

/-- The statement. -/
theorem proved : Rows.ConfigFindsCardSaid :=
  Claim7.holds_tied_plain_at .later [] [.data, .data, .data, .data, .sentinel, .sentinel, .pinned] true (true, "3f3a4f523625710108ada76b9195579658de1eb7ac238c5a1be87e10afbaa608") true
    over (fun _ h => by cases h) (by kernel_rfl) (fun _ h => by cases h) configFinds_row_tie rfl ⟨rfl, rfl⟩ (by kernel_rfl) rfl
    (fun f fn hf hfn => by
      obtain rfl : f = 3 := Option.some.inj ((show Tryz.prog.funcNamed "outrider/outriderlaw09.ConfigFinds" = some 3 by kernel_rfl).symm.trans hf) |>.symm
      obtain rfl : fn = Tryz.f3 := (Option.some.inj (Tryz.func3.symm.trans hfn)).symm
      exact ⟨by kernel_rfl, fun j t ht => by
        have hm : t ∈ Tryz.f3.params.toList := by simpa using Array.mem_of_getElem? ht
        have hall : (Tryz.f3.params.toList.all fun u => !Tryz.prog.wantsStandIn u) = true := by kernel_rfl
        exact (show Tryz.prog.wantsStandIn t = false by simpa using List.all_eq_true.1 hall t hm)⟩)
    (by kernel_rfl)
#print axioms proved
end Go.Proofs.YtfonekpmkdkgnaaGreatDoor.configFinds
