/- The law outriderlaw07.CodecLists: for every input it answers true, and each argument reads behind the call as it did. No condition. -/
import Derived.Test.YthlggigjnpldcaaLwCC
namespace Go.Proofs.Ythlggigjnpldcaa.codecLists
open Go.ChangeShapes Go.WideShapes Go.ChangeAt Go.RowKit
open Go.ChangeMaps (open_string)
set_option linter.unusedVariables false

theorem own : ownKnob Try.prog.godebug = none := by kernel_rfl
set_option maxRecDepth 100000 in
theorem lifted (os : Os) (started : os.Started) (H : Type) (enc : TypeId × Value → H) (F0 : Stop.Interp) :
    ReturnsInHanded {} Try.checked os 4 .any ((Rows.OpenSpec.upto Rows.codecListsSpec).pre6 enc Try.prog Try.f4 Rows.codecListsUptoRow.domain false) (((Rows.OpenSpec.upto Rows.codecListsSpec).at F0).post enc Try.prog Try.f4 false true false false) := by
  refine returnsInHanded_of_cond (C := Try.checked) (s := Rows.OpenSpec.upto Rows.codecListsSpec) (k := Rows.uptoSmall) rfl own started (by kernel_rfl) Try.func4
    (OpenSpec.witness (enc := enc) (C := Try.checked) (s := Rows.OpenSpec.upto Rows.codecListsSpec) (k := Rows.uptoSmall) rfl false ⟨#[], #[.slice none 0 0, .slice none 0 0], []⟩ 8 (by kernel_rfl) (by kernel_rfl) (by kernel_rfl)
      (x := ([.nil, .nil], [], [])) (by kernel_rfl) (by kernel_rfl) (by kernel_rfl)) ?_
  intro W base args ds gs before hval0 hW hcnd hk0 _
  have hval : ∀ (j : Nat) t v, Try.f4.params[j]? = some t → args[j]? = some v → Value.okWide Try.prog W .any base t v := hval0
  have hW' := hW
  obtain ⟨p, q, hA0, hV, rfl, hfz, hnd⟩ := hW
  have hA : DataW.TrodAll enc Try.prog W 0 (fun _ => true) true Try.f4.params.toList args.toList ds p := hA0
  rw [Try.params4] at hA hval
  obtain ⟨v0, vs0, d0, ds0, p0, q0, hargs, rfl, rfl, h0, r0⟩ := trodAll_cons hA
  obtain ⟨v1, vs1, d1, ds1, p1, q1, rfl, rfl, rfl, h1, r1⟩ := trodAll_cons r0
  obtain ⟨rfl, rfl, rfl⟩ := trodAll_nil r1
  obtain rfl : args = #[v0, v1] := by cases args; simp_all
  obtain ⟨rfl, rfl⟩ := trodVars_none hV
  obtain ⟨xa0, xn0, xc0, rfl⟩ := okWide_slice Try.underlying22 (hval 0 22 v0 rfl rfl)
  obtain ⟨y0, k0, z0⟩ := Sy.open_oneB (Sy.opensB_Nds) rfl h0
  obtain ⟨xa1, xn1, xc1, rfl⟩ := okWide_slice Try.underlying22 (hval 1 22 v1 rfl rfl)
  obtain ⟨y1, k1, z1⟩ := Sy.open_oneB (Sy.opensB_Nds) rfl h1
  clear hA0 hval0
  simp only [List.append_nil] at hW'
  have hk1 := of_decide_eq_true hk0
  simp only [List.append_nil, Rows.uptoBulkAll] at hk1
  have k0 : _ ∧ _ ≤ 1048576 := ⟨k0.1, Nat.le_trans k0.2 (by show Rows.uptoBulk d0 ≤ _; omega)⟩
  have k1 : _ ∧ _ ≤ 1048576 := ⟨k1.1, Nat.le_trans k1.2 (by show Rows.uptoBulk d1 ≤ _; omega)⟩
  refine (Sy.law_of_ac (fn := Try.f4) rfl rfl (by kernel_rfl) (Sy.law_CodecLists y0 k0 y1 k1) (Sy.DW W) W (fun _ h => h) (Sy.rl_of z0 (Sy.rl_of z1 Sy.rl_nil))).mono fun e W' ⟨he, hg⟩ => ?_
  subst he
  exact ⟨_, rfl, post_law (tb := 4) (by kernel_rfl) (by kernel_rfl) rfl Try.underlying4 rfl hW' rfl hg⟩

theorem over : Rows.codecListsUptoRow.holds Try.pinned (Rows.OpenSpec.upto Rows.codecListsSpec) :=
  OpenClaim.holds_of_cond 4 Try.f4 rfl rfl rfl rfl rfl rfl rfl ⟨rfl, rfl, rfl, rfl, rfl⟩ rfl rfl rfl rfl rfl (by kernel_rfl) Try.func4 (by kernel_rfl)
    (of_decide_eq_true (by kernel_rfl)) (by unfold Func.isWrapper; first | (rw [if_pos (by decide +kernel)]; kernel_rfl) | (rw [if_neg (by decide +kernel)]; exact ⟨rfl, rfl⟩))
    (fun os started H enc _ F0 => lifted os started H enc F0)

/-- The statement. -/
theorem proved : Rows.CodecListsUptoSaid :=
  over
#print axioms proved
end Go.Proofs.Ythlggigjnpldcaa.codecLists
