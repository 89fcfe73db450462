/- Chapters 1 and 2: what their functions compute, as summaries for the executor. -/
import Derived.Test.YtckbbcjbbmgmoaaDoorSyU
import Derived.Test.YtckbbcjbbmgmoaaDoorSum
namespace Go.Proofs.YtckbbcjbbmgmoaaDoor
namespace Sy
open Go Go.RowKit
set_option maxRecDepth 100000

def putZ (e n : Int) : List UInt8 := putL e.toNat (cl8 n)
def getZ (l : List UInt8) : Int := getL l
def putOk (e n : Int) : Prop := 0 ≤ e ∧ e < 18446744073709551616 ∧ -9223372036854775808 ≤ n ∧ n ≤ 9223372036854775807
def getOk (l : List UInt8) : Prop := 1 ≤ l.length ∧ l.length ≤ 8
def upto (n : Nat) (l : List UInt8) : Prop := l.length ≤ n
def chkE (l : List UInt8) : Int := if l.length < 4 then 3 else if markL (l.take (l.length - 4)) = l then 0 else 9
def chkS (l : List UInt8) : List UInt8 := if l.length < 4 then [] else if markL (l.take (l.length - 4)) = l then l.take (l.length - 4) else []

def put_s (L : Seal) : Ent1 := (21, fun xs => match xs with | [.int .u64 e, .int .i64 n] => some (L2 L putOk e n, .str (L2 L putZ e n)) | _ => none)
def get_s (L : Seal) : Ent1 := (30, fun xs => match xs with | [.str l] => some (L getOk l, .tup [.int .u64 (L getZ l), .int .i64 0]) | _ => none)
theorem tup2_r {x y : AV} {v u : Value} (hx : ∀ h D, R h D noMu x v) (hy : ∀ h D, R h D noMu y u) : ∀ h D, R h D noMu (.tup [x, y]) (.tuple #[v, u]) := by
  intro h D
  refine .tup _ _ rfl ?_
  intro i z t hz ht
  match i with
  | 0 => simp at hz ht; subst hz ht; exact hx h D
  | 1 => simp at hz ht; subst hz ht; exact hy h D
  | i + 2 => simp at hz
theorem int_r (k : IntKind) (n : Int) : ∀ h D, R h D noMu (.int k n) (.int k n) := fun _ _ => .int k n
theorem nat_of {e : Int} (h : 0 ≤ e) : ∃ n : Nat, e = n := ⟨e.toNat, by omega⟩

theorem put_good : Good Tryd.prog (put_s std) := by
  intro xs p r h hp
  dsimp only [put_s] at h ⊢
  split at h <;> cases h
  rename_i e n
  obtain ⟨h0, h1, h2, h3⟩ : putOk e n := hp
  obtain ⟨k, rfl⟩ := nat_of h0
  exact ac_of_below (fn := Tryd.f21) rfl rfl (by kernel_rfl) (args2 (tells_int _ _) (tells_int _ _)) (fun h D => str_r h D _ _) (fun w => put_any k n w (by omega))
theorem get_good : Good Tryd.prog (get_s std) := by
  intro xs p r h hp
  dsimp only [get_s] at h ⊢
  split at h <;> cases h
  rename_i l
  obtain ⟨h1, h8⟩ : getOk l := hp
  exact ac_of_below (fn := Tryd.f30) rfl rfl (by kernel_rfl) (args1 (tells_str _)) (tup2_r (int_r _ _) (int_r _ _)) (below_of_same fun w => get_any l w h1 h8)
end Sy
end Go.Proofs.YtckbbcjbbmgmoaaDoor
