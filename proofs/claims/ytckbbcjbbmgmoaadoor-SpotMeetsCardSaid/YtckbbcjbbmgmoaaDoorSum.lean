/- What the functions of package sum, and the reference's, compute: one contract a function. -/
import Derived.Test.YtckbbcjbbmgmoaaDoorWord
import Derived.RegionTactic
import Derived.BigRegion
namespace Go.Proofs.YtckbbcjbbmgmoaaDoor
open Go.RowKit

def poly : Nat := 2197175160
def step1 (n : Nat) : Nat := if n % 2 = 1 then n / 2 ^^^ 2197175160 else n / 2
def stepN : Nat → Nat → Nat
  | 0, n => n
  | i + 1, n => stepN i (step1 n)
theorem stepN_succ (i n : Nat) : stepN (i + 1) n = step1 (stepN i n) := by
  induction i generalizing n with
  | zero => rfl
  | succ i ih => rw [stepN, ih]; rfl
def stepB (n : Nat) (c : UInt8) : Nat := stepN 8 (n ^^^ c.toNat)
def crcRun (n : Nat) (l : List UInt8) : Nat := l.foldl stepB n
def crcL (l : List UInt8) : Nat := 4294967295 - crcRun 4294967295 l
def quickB (n : Nat) (c : UInt8) : Nat := (n ^^^ c.toNat) * 1099511628211 % 18446744073709551616
def quickRun (n : Nat) (l : List UInt8) : Nat := l.foldl quickB n
def quickL (l : List UInt8) : Nat := quickRun 14695981039346656037 l

theorem step1_lt {n : Nat} (h : n < 4294967296) : step1 n < 4294967296 := by
  unfold step1
  split
  · exact Nat.xor_lt_two_pow (n := 32) (by omega) (by omega)
  · omega
theorem stepN_lt (i : Nat) {n : Nat} (h : n < 4294967296) : stepN i n < 4294967296 := by
  induction i generalizing n with
  | zero => exact h
  | succ i ih => exact ih (step1_lt h)
theorem xor_byte_lt {n : Nat} (c : UInt8) (h : n < 4294967296) : n ^^^ c.toNat < 4294967296 :=
  Nat.xor_lt_two_pow (n := 32) h (by have := c.toNat_lt; omega)
theorem stepB_lt {n : Nat} (c : UInt8) (h : n < 4294967296) : stepB n c < 4294967296 := stepN_lt 8 (xor_byte_lt c h)
theorem crcRun_lt (l : List UInt8) {n : Nat} (h : n < 4294967296) : crcRun n l < 4294967296 := by
  induction l generalizing n with
  | nil => exact h
  | cons c l ih => exact ih (stepB_lt c h)
theorem quickB_lt (n : Nat) (c : UInt8) : quickB n c < 18446744073709551616 := Nat.mod_lt _ (by decide)
theorem quickRun_lt (l : List UInt8) {n : Nat} (h : n < 18446744073709551616) : quickRun n l < 18446744073709551616 := by
  induction l generalizing n with
  | nil => exact h
  | cons c l ih => exact ih (quickB_lt n c)
theorem foldl_snoc {α β : Type} (f : β → α → β) (b : β) (l : List α) (a : α) : (l ++ [a]).foldl f b = f (l.foldl f b) a := by simp
theorem crcRun_append (n : Nat) (a b : List UInt8) : crcRun n (a ++ b) = crcRun (crcRun n a) b := by simp [crcRun]
theorem quickRun_append (n : Nat) (a b : List UInt8) : quickRun n (a ++ b) = quickRun (quickRun n a) b := by simp [quickRun]
theorem crcRun_take (n : Nat) (l : List UInt8) (k : Nat) (h : k < l.length) : crcRun n (l.take (k + 1)) = stepB (crcRun n (l.take k)) l[k] := by
  rw [List.take_succ_eq_append_getElem h]; exact foldl_snoc stepB n _ _
theorem quickRun_take (n : Nat) (l : List UInt8) (k : Nat) (h : k < l.length) : quickRun n (l.take (k + 1)) = quickB (quickRun n (l.take k)) l[k] := by
  rw [List.take_succ_eq_append_getElem h]; exact foldl_snoc quickB n _ _

/-! ### the walk's forms -/
theorem and1_u32 (x : Nat) (h : x < 4294967296) : bits .and .u32 (x : Int) 1 = (x : Int) % 2 := by
  have := u32_and_nat x 1 h (by decide)
  rw [nat_mask1, show ((x % 2 : Nat) : Int) = (x : Int) % 2 by omega] at this
  exact this
theorem xor_u32_lit (a b : Nat) (ha : a < 4294967296) (hb : b < 4294967296) (u v : Int) (hu : u = a) (hv : v = b) : bits .xor .u32 u v = ((a ^^^ b : Nat) : Int) := by
  subst hu; subst hv; exact u32_xor_nat a b ha hb
theorem half_xor (x : Nat) (h : x < 4294967296) : bits .xor .u32 ((x : Int) / 2) 2197175160 = ((x / 2 ^^^ 2197175160 : Nat) : Int) :=
  xor_u32_lit _ _ (by omega) (by omega) _ _ (by omega) (by omega)
theorem xor_byte_u32 (x : Nat) (c : UInt8) (h : x < 4294967296) : bits .xor .u32 (x : Int) (c.toNat : Int) = ((x ^^^ c.toNat : Nat) : Int) :=
  u32_xor_nat x c.toNat h (by have := c.toNat_lt; omega)
theorem xor_byte_u64 (x : Nat) (c : UInt8) (h : x < 18446744073709551616) : bits .xor .u64 (x : Int) (c.toNat : Int) = ((x ^^^ c.toNat : Nat) : Int) :=
  u64_xor_nat x c.toNat h (by have := c.toNat_lt; omega)

theorem not32 (x : Nat) (h : x < 4294967296) : 4294967295 ^^^ x = 4294967295 - x := by
  have h1 : (BitVec.allOnes 32 ^^^ BitVec.ofNat 32 x).toNat = (~~~ (BitVec.ofNat 32 x)).toNat := by rw [BitVec.allOnes_xor]
  rw [BitVec.toNat_xor, BitVec.toNat_not, BitVec.toNat_allOnes, BitVec.toNat_ofNat, Nat.mod_eq_of_lt (by omega)] at h1
  exact h1
theorem not_u32 (x : Nat) (h : x < 4294967296) : bits .xor .u32 IntKind.u32.max (x : Int) = ((4294967295 - x : Nat) : Int) := by
  rw [← not32 x h]
  exact xor_u32_lit 4294967295 x (by omega) h _ _ (by decide) rfl

/-! ### The parts: a slice of strings in memory -/
def Parts (w : World) (g : Nat) (ps : List (List UInt8)) : Prop := ∀ j (h : j < ps.length), w.cell? ⟨g, j, none⟩ = some (.string ⟨ps[j].toArray⟩)
def flat (ps : List (List UInt8)) : List UInt8 := ps.flatten
theorem flat_take (ps : List (List UInt8)) (k : Nat) (h : k < ps.length) : (ps.take (k + 1)).flatten = (ps.take k).flatten ++ ps[k] := by
  rw [List.take_succ_eq_append_getElem h, List.flatten_append]; simp only [List.flatten_cons, List.flatten_nil, List.append_nil]

/-! ### turned, Mark, Check -/
theorem parts_lit (ps : List (List UInt8)) (cs : Array Value) (hcs : cs = (ps.map str).toArray) (w : World) (t : TypeId) : Parts (w.alloc (.cells cs t)) w.heap.size ps := by
  subst hcs
  intro j hj
  rw [cell_of_row _ _ _ _ _ _ (heap_alloc_new w _)]
  simp [hj, str]
def le4 (n : Nat) : List UInt8 := [UInt8.ofNat n, UInt8.ofNat (n / 256), UInt8.ofNat (n / 65536), UInt8.ofNat (n / 16777216)]
def markL (l : List UInt8) : List UInt8 := l ++ le4 (crcL l)
theorem le4_eq (n : Nat) : (putL n (cl8 4)).reverse = le4 n := by
  have : cl8 4 = 4 := by decide
  rw [this]
  simp [putL, le4]
theorem crcL_lt (l : List UInt8) : crcL l < 4294967296 := by unfold crcL; omega
theorem markL_length (l : List UInt8) : (markL l).length = l.length + 4 := by simp [markL, le4]

theorem conv_four {P : Program} {src dst e : TypeId} (hs : P.underlying src = some (.slice e)) (he : P.underlying e = some (.int .u8)) (hd : P.underlying dst = some .string) (W : World) (x0 x1 x2 x3 : Int) (b0 b1 b2 b3 : UInt8)
    (h0 : (b0.toNat : Int) = x0) (h1 : (b1.toNat : Int) = x1) (h2 : (b2.toNat : Int) = x2) (h3 : (b3.toNat : Int) = x3) :
    (convert src dst (.slice (some ⟨W.heap.size, 0, none⟩) 4 4)).run P (W.alloc (.cells #[.int .u8 x0, .int .u8 x1, .int .u8 x2, .int .u8 x3] e)) = .ok (.string ⟨[b0, b1, b2, b3].toArray⟩) (W.alloc (.cells #[.int .u8 x0, .int .u8 x1, .int .u8 x2, .int .u8 x3] e)) := by
  subst h0 h1 h2 h3
  refine conv_row (n := 4) (f := fun i => bcell ([b0, b1, b2, b3].getD i 0)) [b0, b1, b2, b3] hs he hd (World.rowIs_alloc W #[bcell b0, bcell b1, bcell b2, bcell b3] e _ ?_) rfl ?_
  · intro i hi
    match i, hi with
    | 0, _ => rfl
    | 1, _ => rfl
    | 2, _ => rfl
    | 3, _ => rfl
  · intro i hi
    match i, hi with
    | 0, _ => rfl
    | 1, _ => rfl
    | 2, _ => rfl
    | 3, _ => rfl

end Go.Proofs.YtckbbcjbbmgmoaaDoor
