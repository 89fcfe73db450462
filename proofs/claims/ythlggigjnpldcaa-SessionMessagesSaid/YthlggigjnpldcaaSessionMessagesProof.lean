/- The law outriderlaw19.SessionMessages: for every input it answers true, and each argument reads behind the call as it did. No condition. -/
import Derived.Test.YthlggigjnpldcaaLwSB
namespace Go.Proofs.Ythlggigjnpldcaa.sessionMessages
open Go.ChangeShapes Go.WideShapes Go.ChangeAt Go.RowKit
open Go.ChangeMaps (open_string)
set_option linter.unusedVariables false

theorem own : ownKnob Try.prog.godebug = none := by kernel_rfl
set_option maxRecDepth 100000 in
theorem lifted (os : Os) (started : os.Started) (H : Type) (enc : TypeId × Value → H) :
    ReturnsInHanded {} Try.checked os 7 .any (Rows.sessionMessagesSpec.pre6 enc Try.prog Try.f7 Rows.sessionMessagesRow.domain false) (Rows.sessionMessagesSpec.post enc Try.prog Try.f7 false true false false) := by
  refine returnsInHanded_of_change_sized (C := Try.checked) own started (by kernel_rfl) Try.func7
    (ChangeSpec.witness6 (enc := enc) (C := Try.checked) false ⟨#[], #[.int .i64 0, .int .u64 0, .string ByteArray.empty, .slice none 0 0, .string ByteArray.empty], []⟩ 8 (by kernel_rfl) (by kernel_rfl) (by kernel_rfl) (by kernel_rfl)) ?_
  intro W base args ds gs before hval0 hW hcnd hsz0 _
  have hval : ∀ (j : Nat) t v, Try.f7.params[j]? = some t → args[j]? = some v → Value.okWide Try.prog W .any base t v := hval0
  have hW' := hW
  obtain ⟨p, q, hA0, hV, rfl, hfz, hnd⟩ := hW
  have hA : DataW.TrodAll enc Try.prog W 0 (fun _ => true) true Try.f7.params.toList args.toList ds p := hA0
  clear hsz0
  rw [Try.params7] at hA hval
  obtain ⟨v0, vs0, d0, ds0, p0, q0, hargs, rfl, rfl, h0, r0⟩ := trodAll_cons hA
  obtain ⟨v1, vs1, d1, ds1, p1, q1, rfl, rfl, rfl, h1, r1⟩ := trodAll_cons r0
  obtain ⟨v2, vs2, d2, ds2, p2, q2, rfl, rfl, rfl, h2, r2⟩ := trodAll_cons r1
  obtain ⟨v3, vs3, d3, ds3, p3, q3, rfl, rfl, rfl, h3, r3⟩ := trodAll_cons r2
  obtain ⟨v4, vs4, d4, ds4, p4, q4, rfl, rfl, rfl, h4, r4⟩ := trodAll_cons r3
  obtain ⟨rfl, rfl, rfl⟩ := trodAll_nil r4
  obtain rfl : args = #[v0, v1, v2, v3, v4] := by cases args; simp_all
  obtain ⟨rfl, rfl⟩ := trodVars_none hV
  obtain ⟨x0, rfl⟩ := okWide_int Try.underlying3 (hval 0 3 v0 rfl rfl)
  obtain ⟨y0, k0, z0⟩ := Sy.open_one (Sy.opens_int Try.underlying3 (by kernel_rfl)) rfl h0
  obtain ⟨x1, rfl⟩ := okWide_int Try.underlying24 (hval 1 24 v1 rfl rfl)
  obtain ⟨y1, k1, z1⟩ := Sy.open_one (Sy.opens_int Try.underlying24 (by kernel_rfl)) rfl h1
  obtain ⟨x2, rfl⟩ := okWide_string Try.underlying9 (hval 2 9 v2 rfl rfl)
  obtain ⟨y2, k2, z2⟩ := Sy.open_one (Sy.opens_str Try.underlying9 (by kernel_rfl)) rfl h2
  obtain ⟨xa3, xn3, xc3, rfl⟩ := okWide_slice Try.underlying68 (hval 3 68 v3 rfl rfl)
  obtain ⟨y3, k3, z3⟩ := Sy.open_one (Sy.opens_slice Try.underlying68 (by kernel_rfl) (Sy.opens_int Try.underlying24 (by kernel_rfl)) (by decide)) rfl h3
  obtain ⟨x4, rfl⟩ := okWide_string Try.underlying9 (hval 4 9 v4 rfl rfl)
  obtain ⟨y4, k4, z4⟩ := Sy.open_one (Sy.opens_str Try.underlying9 (by kernel_rfl)) rfl h4
  clear hA0 hval0
  simp only [List.append_nil] at hW'
  refine (Sy.law_of_ac (fn := Try.f7) rfl rfl (by kernel_rfl) (Sy.sessionMessages_ac y0 k0 y1 k1 y2 k2 y3 k3 y4 k4) (Sy.DW W) W (fun _ h => h) (Sy.rl_of z0 (Sy.rl_of z1 (Sy.rl_of z2 (Sy.rl_of z3 (Sy.rl_of z4 Sy.rl_nil)))))).mono fun e W' ⟨he, hg⟩ => ?_
  subst he
  exact ⟨_, rfl, post_law (tb := 4) (by kernel_rfl) (by kernel_rfl) rfl Try.underlying4 rfl hW' rfl hg⟩

theorem over : Rows.sessionMessagesRow.holds Try.pinned (OpenSpec.ofChange Rows.sessionMessagesSpec) :=
  OpenClaim.holds_of_wide 7 Try.f7 rfl rfl rfl rfl rfl rfl rfl ⟨rfl, rfl, rfl, rfl, rfl⟩ rfl rfl rfl rfl rfl (by kernel_rfl) Try.func7 (by kernel_rfl)
    (of_decide_eq_true (by kernel_rfl)) (by unfold Func.isWrapper; first | (rw [if_pos (by decide +kernel)]; kernel_rfl) | (rw [if_neg (by decide +kernel)]; exact ⟨rfl, rfl⟩))
    (fun os started H enc _ => lifted os started H enc)

/-- The statement. -/
theorem proved : Rows.SessionMessagesSaid :=
  over
#print axioms proved
end Go.Proofs.Ythlggigjnpldcaa.sessionMessages
