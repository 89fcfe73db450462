/- Chapter 1 (word): numbers in decimal. -/
import Derived.Test.YtckbbcjbbmgmoaaDoorAcA
import Derived.Test.YtckbbcjbbmgmoaaDoorStr
import Derived.Lib.AtoiErrMem
import Derived.Lib.ParseIntBCases
namespace Go.Proofs.YtckbbcjbbmgmoaaDoor
namespace Sy
open Go Go.RowKit
set_option maxRecDepth 100000
set_option linter.unusedSimpArgs false
set_option linter.unusedVariables false

/-- A contract that asks what package variables hold. -/
theorem ac_of_belowG {P : Program} {f : FuncId} {fn : Func} {c : Code} {xs : List AV} {args : Array Value} {r : AV} (hf : P.funcs[f]? = some fn) (hb : fn.body = some c) (hn : (fn.name == "runtime.NumGoroutine") = false)
    (ha : ∀ h D vs, RL h D noMu xs vs → vs = args) (h : ∀ w, GOk w → Calls P f args w fun e w' => ∃ v, e = .returned v ∧ Below w.heap.size w w' ∧ ∀ h D, R h D noMu r v) : ACalls P f xs r := by
  intro D w vs hD hxs hg
  have := ha _ _ _ hxs
  subst this
  unfold CallTo
  rw [callFunc_run hf hn hb]
  refine (h w hg).mono ?_
  rintro e w' ⟨v, rfl, hw, hv⟩
  exact ⟨v, D, rfl, hw, fun _ h => h, fun b hb => .inl hb, hv _ _⟩
theorem args3 {x y z : AV} {v u t : Value} (hx : Tells x v) (hy : Tells y u) (hz : Tells z t) : ∀ h D vs, RL h D noMu [x, y, z] vs → vs = #[v, u, t] := by
  intro h D vs ⟨hl, hr⟩
  obtain ⟨a, b, c, ha⟩ : ∃ a b c, vs.toList = [a, b, c] := by
    have hl : vs.toList.length = 3 := by simpa using hl.symm
    match vs.toList, hl with
    | [a, b, c], _ => exact ⟨a, b, c, rfl⟩
  have : vs = #[a, b, c] := by rw [← Array.toArray_toList (xs := vs), ha]
  subst this
  rw [hx _ _ a (hr 0 x a rfl rfl), hy _ _ b (hr 1 y b rfl rfl), hz _ _ c (hr 2 z c rfl rfl)]
def digZ (n : Int) : List UInt8 := Lib.decDigits n.toNat
def u64In (n : Int) : Prop := 0 ≤ n ∧ n < 18446744073709551616
def fmt_s (L : Seal) : Ent1 := (33, fun xs => match xs with | [.int .u64 n, .int .i64 b] => some (L2 L (fun n b : Int => u64In n ∧ b = 10) n b, .str (L digZ n)) | _ => none)
theorem fmt_good : Good Tryd.prog (fmt_s std) := by
  intro xs p r h hp
  dsimp only [fmt_s] at h ⊢
  split at h <;> cases h
  try simp only [L2, L3, std] at hp ⊢
  rename_i n b
  obtain ⟨⟨h0, h1⟩, h2⟩ : u64In n ∧ b = 10 := hp
  subst h2
  obtain ⟨u, rfl⟩ := nat_of h0
  refine ac_of_belowG (fn := Tryd.f33) rfl rfl (by kernel_rfl) (args2 (tells_int _ _) (tells_int _ _)) (fun w hg => (fmt_out u (by omega) w hg.2.1).mono ?_)
  rintro e w' ⟨rfl, hw⟩
  exact ⟨_, rfl, hw, fun h D => str_r h D _ _⟩
/-- What ParseUint answers. -/
def prsV (s : List UInt8) : Int := match Lib.parseUintB 64 s with | .ok u => u | .syntax => 0 | .range => 18446744073709551615
def prsN (s : List UInt8) : Bool := match Lib.parseUintB 64 s with | .ok _ => true | _ => false
def prs_s (L : Seal) : Ent1 := (40, fun xs => match xs with | [.str s, .int .i64 b, .int .i64 z] => some (L3 L (fun (s : List UInt8) (b z : Int) => s.length ≤ 140737488355328 ∧ b = 10 ∧ z = 64) s b z, .tup [.int .u64 (L prsV s), .ifb (L prsN s)]) | _ => none)
theorem tup2_R {x y : AV} {v u : Value} {h : Array Obj} {D : Nat → Prop} (hx : R h D noMu x v) (hy : R h D noMu y u) : R h D noMu (.tup [x, y]) (.tuple #[v, u]) := by
  refine .tup _ _ rfl ?_
  intro i z t hz ht
  match i with
  | 0 => simp at hz ht; subst hz ht; exact hx
  | 1 => simp at hz ht; subst hz ht; exact hy
  | i + 2 => simp at hz
theorem prs_good : Good Tryd.prog (prs_s std) := by
  intro xs p r h hp
  dsimp only [prs_s] at h ⊢
  split at h <;> cases h
  try simp only [L2, L3, std] at hp ⊢
  rename_i s b z
  obtain ⟨h0, h1, h2⟩ : s.length ≤ 140737488355328 ∧ b = 10 ∧ z = 64 := hp
  subst h1; subst h2
  have hs : (⟨s.toArray⟩ : ByteArray).size = s.length := by show s.toArray.size = s.length; simp
  have hd : (⟨s.toArray⟩ : ByteArray).data.toList = s := rfl
  refine ac_of_belowG (fn := Tryd.f40) rfl rfl (by kernel_rfl) (args3 (tells_str _) (tells_int _ _) (tells_int _ _)) (fun w hg => ?_)
  obtain ⟨-, -, ⟨t2, p2, g2⟩, t3, p3, g3⟩ := hg
  cases hq : Lib.parseUintB 64 s with
  | ok u =>
    refine (Tryd.strconv_ParseUint_10_at64_ok ⟨s.toArray⟩ (by rw [hs]; omega) u (by rw [hd]; exact hq) w).mono ?_
    rintro e w' ⟨rfl, hw⟩
    refine ⟨_, rfl, ?_, fun h D => tup2_R ?_ ?_⟩
    · rcases hw with rfl | rfl
      · exact Below.refl _ _
      · exact Lib.bytesWorld_below _ _ _
    · show R h D noMu (.int .u64 (prsV s)) _
      rw [prsV, hq]; exact .int _ _
    · show R h D noMu (.ifb (prsN s)) _
      rw [prsN, hq]; exact .ifn
  | «syntax» =>
    refine (Tryd.strconv_ParseUint_10_at64_syntax_var ⟨s.toArray⟩ (by rw [hs]; omega) (by rw [hd]; exact hq) t2 p2 w g2).mono ?_
    rintro e w' ⟨N, rfl, hN, hc, hw⟩
    refine ⟨_, rfl, hw, fun h D => tup2_R ?_ ?_⟩
    · show R h D noMu (.int .u64 (prsV s)) _
      rw [prsV, hq]; exact .int _ _
    · show R h D noMu (.ifb (prsN s)) _
      rw [prsN, hq]; exact .ifs _ _
  | range =>
    refine (Tryd.strconv_ParseUint_10_at64_range_var ⟨s.toArray⟩ (by rw [hs]; omega) (by rw [hd]; exact hq) t3 p3 w g3).mono ?_
    rintro e w' ⟨N, rfl, hN, hc, hw⟩
    refine ⟨_, rfl, hw, fun h D => tup2_R ?_ ?_⟩
    · show R h D noMu (.int .u64 (prsV s)) _
      rw [prsV, hq]; exact .int _ _
    · show R h D noMu (.ifb (prsN s)) _
      rw [prsN, hq]; exact .ifs _ _
end Sy
end Go.Proofs.YtckbbcjbbmgmoaaDoor
