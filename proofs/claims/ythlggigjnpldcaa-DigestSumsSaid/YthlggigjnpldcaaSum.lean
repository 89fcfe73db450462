/- What the functions of package sum, and the reference's, compute: one contract a function. -/
import Derived.Test.YthlggigjnpldcaaWord
import Derived.RegionTactic
import Derived.BigRegion
namespace Go.Proofs.Ythlggigjnpldcaa
open Go.RowKit

def poly : Nat := 2197175160
def step1 (n : Nat) : Nat := if n % 2 = 1 then n / 2 ^^^ 2197175160 else n / 2
def stepN : Nat → Nat → Nat
  | 0, n => n
  | i + 1, n => stepN i (step1 n)
theorem stepN_succ (i n : Nat) : stepN (i + 1) n = step1 (stepN i n) := by
  induction i generalizing n with
  | zero => rfl
  | succ i ih => rw [stepN, ih]; rfl
def stepB (n : Nat) (c : UInt8) : Nat := stepN 8 (n ^^^ c.toNat)
def crcRun (n : Nat) (l : List UInt8) : Nat := l.foldl stepB n
def crcL (l : List UInt8) : Nat := 4294967295 - crcRun 4294967295 l
def quickB (n : Nat) (c : UInt8) : Nat := (n ^^^ c.toNat) * 1099511628211 % 18446744073709551616
def quickRun (n : Nat) (l : List UInt8) : Nat := l.foldl quickB n
def quickL (l : List UInt8) : Nat := quickRun 14695981039346656037 l

theorem step1_lt {n : Nat} (h : n < 4294967296) : step1 n < 4294967296 := by
  unfold step1
  split
  · exact Nat.xor_lt_two_pow (n := 32) (by omega) (by omega)
  · omega
theorem stepN_lt (i : Nat) {n : Nat} (h : n < 4294967296) : stepN i n < 4294967296 := by
  induction i generalizing n with
  | zero => exact h
  | succ i ih => exact ih (step1_lt h)
theorem xor_byte_lt {n : Nat} (c : UInt8) (h : n < 4294967296) : n ^^^ c.toNat < 4294967296 :=
  Nat.xor_lt_two_pow (n := 32) h (by have := c.toNat_lt; omega)
theorem stepB_lt {n : Nat} (c : UInt8) (h : n < 4294967296) : stepB n c < 4294967296 := stepN_lt 8 (xor_byte_lt c h)
theorem crcRun_lt (l : List UInt8) {n : Nat} (h : n < 4294967296) : crcRun n l < 4294967296 := by
  induction l generalizing n with
  | nil => exact h
  | cons c l ih => exact ih (stepB_lt c h)
theorem quickB_lt (n : Nat) (c : UInt8) : quickB n c < 18446744073709551616 := Nat.mod_lt _ (by decide)
theorem quickRun_lt (l : List UInt8) {n : Nat} (h : n < 18446744073709551616) : quickRun n l < 18446744073709551616 := by
  induction l generalizing n with
  | nil => exact h
  | cons c l ih => exact ih (quickB_lt n c)
theorem foldl_snoc {α β : Type} (f : β → α → β) (b : β) (l : List α) (a : α) : (l ++ [a]).foldl f b = f (l.foldl f b) a := by simp
theorem crcRun_append (n : Nat) (a b : List UInt8) : crcRun n (a ++ b) = crcRun (crcRun n a) b := by simp [crcRun]
theorem quickRun_append (n : Nat) (a b : List UInt8) : quickRun n (a ++ b) = quickRun (quickRun n a) b := by simp [quickRun]
theorem crcRun_take (n : Nat) (l : List UInt8) (k : Nat) (h : k < l.length) : crcRun n (l.take (k + 1)) = stepB (crcRun n (l.take k)) l[k] := by
  rw [List.take_succ_eq_append_getElem h]; exact foldl_snoc stepB n _ _
theorem quickRun_take (n : Nat) (l : List UInt8) (k : Nat) (h : k < l.length) : quickRun n (l.take (k + 1)) = quickB (quickRun n (l.take k)) l[k] := by
  rw [List.take_succ_eq_append_getElem h]; exact foldl_snoc quickB n _ _

/-! ### the walk's forms -/
theorem and1_u32 (x : Nat) (h : x < 4294967296) : bits .and .u32 (x : Int) 1 = (x : Int) % 2 := by
  have := u32_and_nat x 1 h (by decide)
  rw [nat_mask1, show ((x % 2 : Nat) : Int) = (x : Int) % 2 by omega] at this
  exact this
theorem xor_u32_lit (a b : Nat) (ha : a < 4294967296) (hb : b < 4294967296) (u v : Int) (hu : u = a) (hv : v = b) : bits .xor .u32 u v = ((a ^^^ b : Nat) : Int) := by
  subst hu; subst hv; exact u32_xor_nat a b ha hb
theorem half_xor (x : Nat) (h : x < 4294967296) : bits .xor .u32 ((x : Int) / 2) 2197175160 = ((x / 2 ^^^ 2197175160 : Nat) : Int) :=
  xor_u32_lit _ _ (by omega) (by omega) _ _ (by omega) (by omega)
theorem xor_byte_u32 (x : Nat) (c : UInt8) (h : x < 4294967296) : bits .xor .u32 (x : Int) (c.toNat : Int) = ((x ^^^ c.toNat : Nat) : Int) :=
  u32_xor_nat x c.toNat h (by have := c.toNat_lt; omega)
theorem xor_byte_u64 (x : Nat) (c : UInt8) (h : x < 18446744073709551616) : bits .xor .u64 (x : Int) (c.toNat : Int) = ((x ^^^ c.toNat : Nat) : Int) :=
  u64_xor_nat x c.toNat h (by have := c.toNat_lt; omega)

theorem not32 (x : Nat) (h : x < 4294967296) : 4294967295 ^^^ x = 4294967295 - x := by
  have h1 : (BitVec.allOnes 32 ^^^ BitVec.ofNat 32 x).toNat = (~~~ (BitVec.ofNat 32 x)).toNat := by rw [BitVec.allOnes_xor]
  rw [BitVec.toNat_xor, BitVec.toNat_not, BitVec.toNat_allOnes, BitVec.toNat_ofNat, Nat.mod_eq_of_lt (by omega)] at h1
  exact h1
theorem not_u32 (x : Nat) (h : x < 4294967296) : bits .xor .u32 IntKind.u32.max (x : Int) = ((4294967295 - x : Nat) : Int) := by
  rw [← not32 x h]
  exact xor_u32_lit 4294967295 x (by omega) h _ _ (by decide) rfl

set_option maxRecDepth 100000 in
set_option maxHeartbeats 400000 in
theorem step_any (n : Nat) (c : UInt8) (w : World) (hn : n < 4294967296) :
    Calls Try.prog 115 #[.int .u32 n, .int .u8 c.toNat] w fun e w' => e = .returned (.int .u32 (stepB n c)) ∧ w = w' := by
  have hx := xor_byte_u32 n c hn
  have hlt := xor_byte_lt c hn
  obtain ⟨s, hs⟩ : ∃ s, s = n ^^^ c.toNat := ⟨_, rfl⟩
  rw [← hs] at hx hlt
  have Hs := Lib.hid hs
  clear hs
  go_enter Try.func115, Try.ntmps115
  go_wp2
  refine wp_scope_again 0 (fun a' w' => w = w' ∧ ∃ (k x : Nat), Hid (x = stepN k s) ∧ k < 8 ∧ x < 4294967296 ∧ ∃ u1 u2 u3 u4 u6 u7 u8 u9 u10 u11 u12 u13 u14 u15 u16 u17 u18 u19 u20 u21 u22 : Value, a' = ⟨#[.int .u32 (x : Int), u1, u2, u3, u4, .int .i64 (k : Int), u6, u7, u8, u9, u10, u11, u12, u13, u14, u15, u16, u17, u18, u19, u20, u21, u22], []⟩) (fun a' _ => 8 - (intOf (a'.tmps.getD 5 undef)).toNat) rfl ?_ ?_
  · rintro a' w' ⟨rfl, k, x, hx, hk, hxl, u1, u2, u3, u4, u6, u7, u8, u9, u10, u11, u12, u13, u14, u15, u16, u17, u18, u19, u20, u21, u22, rfl⟩
    have h1 := and1_u32 x hxl
    have h2 := half_xor x hxl
    by_cases hodd : x % 2 = 1
    · have e1 : ((x : Int) % 2 == 1) = true := by rw [beq_iff_eq]; omega
      have e2 : stepN (k + 1) s = x / 2 ^^^ 2197175160 := by rw [stepN_succ, ← hx.out, step1, if_pos hodd]
      have e3 : x / 2 ^^^ 2197175160 < 4294967296 := by rw [← e2]; exact stepN_lt _ hlt
      have E2 := Lib.hid e2
      clear e2 hodd
      go_wp2
      · go_step3
        exact ⟨rfl, ⟨rfl, k + 1, _, Lib.hid E2.out.symm, by omega, e3, _, _, _, _, _, _, _, _, _, _, _, _, _, _, _, _, _, _, _, _, _, by go_num⟩, by simp [intOf] <;> omega⟩
      · go_ret
        refine ⟨?_, rfl⟩
        have : stepB n c = _ := (show stepB n c = stepN (k + 1) s by rw [stepB, Hs.out]; congr 1; omega).trans E2.out
        rw [this]; rfl
    · have e1 : ((x : Int) % 2 == 1) = false := by rw [beq_eq_false_iff_ne]; omega
      have e2 : stepN (k + 1) s = x / 2 := by rw [stepN_succ, ← hx.out, step1, if_neg hodd]
      have e3 : x / 2 < 4294967296 := by omega
      have E2 := Lib.hid e2
      clear e2 hodd
      go_wp2
      · go_step3
        exact ⟨rfl, ⟨rfl, k + 1, _, Lib.hid E2.out.symm, by omega, e3, _, _, _, _, _, _, _, _, _, _, _, _, _, _, _, _, _, _, _, _, _, by go_num⟩, by simp [intOf] <;> omega⟩
      · go_ret
        refine ⟨?_, rfl⟩
        have : stepB n c = _ := (show stepB n c = stepN (k + 1) s by rw [stepB, Hs.out]; congr 1; omega).trans E2.out
        rw [this]; rfl
  · intro hP
    go_wp2
    go_step3
    simp only [Exit.then]
    apply_assumption
    exact hP.out _ _ ⟨rfl, 0, s, Lib.hid rfl, by omega, hlt, _, _, _, _, _, _, _, _, _, _, _, _, _, _, _, _, _, _, _, _, _, rfl⟩


/-! ### The parts: a slice of strings in memory -/
def Parts (w : World) (g : Nat) (ps : List (List UInt8)) : Prop := ∀ j (h : j < ps.length), w.cell? ⟨g, j, none⟩ = some (.string ⟨ps[j].toArray⟩)
def flat (ps : List (List UInt8)) : List UInt8 := ps.flatten
theorem flat_take (ps : List (List UInt8)) (k : Nat) (h : k < ps.length) : (ps.take (k + 1)).flatten = (ps.take k).flatten ++ ps[k] := by
  rw [List.take_succ_eq_append_getElem h, List.flatten_append]; simp only [List.flatten_cons, List.flatten_nil, List.append_nil]

set_option maxRecDepth 100000 in
set_option maxHeartbeats 800000 in
theorem crc_any (g cap : Nat) (ps : List (List UInt8)) (w : World) (hp : Parts w g ps) (hlen : ps.length ≤ 1000) (hl : ∀ p ∈ ps, p.length ≤ 9223372036854775807) :
    Calls Try.prog 110 #[.slice (some ⟨g, 0, none⟩) ps.length cap] w fun e w' => e = .returned (.int .u32 (crcL ps.flatten)) ∧ w = w' := by
  have Hp := Lib.hid hp
  have Hl := Lib.hid hl
  clear hp hl
  go_enter Try.func110, Try.ntmps110
  go_wp2
  go_loop [3, 9] (fun n i => ∃ k x : Nat, k ≤ ps.length ∧ x < 4294967296 ∧ Hid (x = crcRun 4294967295 (ps.take k).flatten) ∧ i = .int .i64 k ∧ n = .int .u32 x) (fun _ i => ps.length - (intOf i).toNat)
  case atStart => exact ⟨0, 4294967295, by omega, by omega, Lib.hid rfl, rfl, rfl⟩
  case round =>
    obtain ⟨k, x, hk, hx, hX, rfl, rfl⟩ := hrel
    by_cases hlt : k < ps.length
    · obtain ⟨p, hpk⟩ : ∃ p, p = ps[k] := ⟨_, rfl⟩
      have hc := Hp.out k hlt
      rw [← hpk] at hc
      have hpl := Hl.out p (by rw [hpk]; exact List.getElem_mem hlt)
      have Hpk := Lib.hid hpk
      clear hpk
      go_wp2
      go_loop [3, 15] (fun n i => ∃ j y : Nat, j ≤ p.length ∧ y < 4294967296 ∧ Hid (y = crcRun x (p.take j)) ∧ i = .int .i64 j ∧ n = .int .u32 y) (fun _ i => p.length - (intOf i).toNat)
      case atStart => exact ⟨0, x, by omega, hx, Lib.hid rfl, rfl, rfl⟩
      case round =>
        obtain ⟨j, y, hj, hy, hY, rfl, rfl⟩ := hrel
        by_cases hjt : j < p.length
        · obtain ⟨z, hz⟩ : ∃ z, z = stepB y p[j] := ⟨_, rfl⟩
          have hs := Lib.hid (fun w => step_any y p[j] w hy)
          rw [← hz] at hs
          have hzl : z < 4294967296 := by rw [hz]; exact stepB_lt _ hy
          have hZ : Hid (z = crcRun x (p.take (j + 1))) := Lib.hid (by rw [crcRun_take x p j hjt, hz, hY.out])
          clear hz
          go_wp2_with fail
          refine (hs.out _).mono ?_
          rintro e w' ⟨rfl, rfl⟩
          go_wp2_with fail
          go_round
          case rel => exact ⟨j + 1, z, by omega, hzl, hZ, by go_num, by go_num⟩
          case measure => simp [intOf] <;> omega
        · go_wp2_with fail
          go_round
          case rel => exact ⟨k + 1, y, by omega, hy, Lib.hid (by rw [flat_take ps k hlt, crcRun_append, ← hX.out, ← Hpk.out, hY.out, List.take_of_length_le (by omega)]), by go_num, by go_num⟩
          case measure => simp [intOf] <;> omega
    · have hn := not_u32 x hx
      go_wp2
      go_ret
      exact ⟨ret_int (by rw [hX.out, List.take_of_length_le (by omega)]; rfl), rfl⟩

set_option maxRecDepth 100000 in
set_option maxHeartbeats 800000 in
theorem rcrc_any (l : List UInt8) (w : World) (hl : l.length ≤ 9223372036854775807) :
    Calls Try.prog 111 #[.string ⟨l.toArray⟩] w fun e w' => e = .returned (.int .u32 (crcL l)) ∧ w = w' := by
  go_enter Try.func111, Try.ntmps111
  go_wp2
  go_loop [3, 4] (fun n i => ∃ j y : Nat, j ≤ l.length ∧ y < 4294967296 ∧ Hid (y = crcRun 4294967295 (l.take j)) ∧ i = .int .i64 j ∧ n = .int .u32 y) (fun _ i => l.length - (intOf i).toNat)
  case atStart => exact ⟨0, 4294967295, by omega, by omega, Lib.hid rfl, rfl, rfl⟩
  case round =>
    obtain ⟨j, y, hj, hy, hY, rfl, rfl⟩ := hrel
    by_cases hjt : j < l.length
    · obtain ⟨s, hs⟩ : ∃ s, s = y ^^^ l[j].toNat := ⟨_, rfl⟩
      have hq1 := xor_byte_u32 y l[j] hy
      have hsl := xor_byte_lt l[j] hy
      rw [← hs] at hq1 hsl
      have Hs := Lib.hid hs
      clear hs
      go_wp2
      go_loop [3, 5] (fun n i => ∃ k x : Nat, k ≤ 8 ∧ x < 4294967296 ∧ Hid (x = stepN k s) ∧ i = .int .i64 k ∧ n = .int .u32 x) (fun _ i => 8 - (intOf i).toNat)
      case atStart => exact ⟨0, s, by omega, hsl, Lib.hid rfl, rfl, rfl⟩
      case round =>
        obtain ⟨k, x, hk, hxl, hx, rfl, rfl⟩ := hrel
        by_cases hk8 : k < 8
        · have h2 := half_xor x hxl
          by_cases hodd : x % 2 = 1
          · have e1 : ((x : Int) % 2 == 1) = true := by rw [beq_iff_eq]; omega
            have e2 : stepN (k + 1) s = x / 2 ^^^ 2197175160 := by rw [stepN_succ, ← hx.out, step1, if_pos hodd]
            have e3 : x / 2 ^^^ 2197175160 < 4294967296 := by rw [← e2]; exact stepN_lt _ hsl
            have E2 := Lib.hid e2
            clear e2 hodd
            go_wp2
            go_round
            case rel => exact ⟨k + 1, _, by omega, e3, Lib.hid E2.out.symm, by go_num, by go_num⟩
            case measure => simp [intOf] <;> omega
          · have e1 : ((x : Int) % 2 == 1) = false := by rw [beq_eq_false_iff_ne]; omega
            have e2 : stepN (k + 1) s = x / 2 := by rw [stepN_succ, ← hx.out, step1, if_neg hodd]
            have e3 : x / 2 < 4294967296 := by omega
            have E2 := Lib.hid e2
            clear e2 hodd
            go_wp2
            go_round
            case rel => exact ⟨k + 1, _, by omega, e3, Lib.hid E2.out.symm, by go_num, by go_num⟩
            case measure => simp [intOf] <;> omega
        · go_wp2
          go_round
          case rel => exact ⟨j + 1, x, by omega, hxl, Lib.hid (by rw [crcRun_take _ l j hjt, ← hY.out, hx.out, show k = 8 by omega, Hs.out]; rfl), by go_num, by go_num⟩
          case measure => simp [intOf] <;> omega
    · go_wp2
      go_ret
      exact ⟨ret_int (by rw [crcL, hY.out, List.take_of_length_le (by omega)]; have := crcRun_lt l (n := 4294967295) (by decide); omega), rfl⟩


/-! ### turned, Mark, Check -/
set_option maxRecDepth 100000 in
set_option maxHeartbeats 800000 in
theorem turned_any (l : List UInt8) (w : World) (hl : l.length ≤ 1000000) :
    Calls Try.prog 109 #[.string ⟨l.toArray⟩] w fun e w' => e = .returned (.string ⟨l.reverse.toArray⟩) ∧ Below w.heap.size w w' := by
  have hcv := fun w => run_bytes_of_string (P := Try.prog) w 9 63 5 ⟨l.toArray⟩ Try.underlying9 Try.underlying63 Try.underlying5
  have hge := grownCap_ge w l.length 0 5
  have Hge := Lib.hid hge
  clear hge
  go_enter Try.func109, Try.ntmps109
  go_wp2
  go_loopw [10] (fun i wr => ∃ k : Nat, k ≤ l.length / 2 ∧ i = .int .i64 k ∧ Row wr w.heap.size 5 l.length (fun t => if t < k ∨ l.length - k ≤ t then bcell (l.reverse.getD t 0) else bcell (l.getD t 0)) ∧ Below w.heap.size w wr) (fun i _ => l.length / 2 - (intOf i).toNat)
  case atStart =>
    refine ⟨0, by omega, rfl, ((Row.bytes w _ l _).drewN 1).congr fun t ht => ?_, ((Below.refl _ _).alloc (Nat.le_refl _) _).drew⟩
    rw [if_neg (by omega)]
  case round =>
    obtain ⟨k, hk, rfl, hrow, hb⟩ := hrel
    clear hcv
    by_cases hlt : k < l.length / 2
    · obtain ⟨m, hm⟩ : ∃ m, m = l.length - 1 - k := ⟨_, rfl⟩
      have c1 := hrow.cell (i := k) (by omega)
      have c2 := hrow.cell (i := m) (by omega)
      have f1 := hrow.frozen (i := k) (by omega)
      have f2 := hrow.frozen (i := m) (by omega)
      have hw1 : IntKind.i64.wrap ((l.length : Int) - 1) = (l.length : Int) - 1 := by rw [IntKind.wrap_i64]; omega
      have hw2 : IntKind.i64.wrap ((l.length : Int) - 1 - (k : Int)) = (m : Int) := by rw [IntKind.wrap_i64]; omega
      have hw3 : (k : Int) < (l.length : Int) := by omega
      have hw4 : (m : Int) < (l.length : Int) := by omega
      rw [if_neg (by omega)] at c1 c2
      obtain ⟨x, hx⟩ : ∃ x, x = l.getD k 0 := ⟨_, rfl⟩
      obtain ⟨y, hy⟩ : ∃ y, y = l.getD m 0 := ⟨_, rfl⟩
      rw [← hx] at c1
      rw [← hy] at c2
      unfold bcell at c1 c2
      have hkm : m ≠ k := by omega
      have c3 : (wr.setCell ⟨w.heap.size, k, none⟩ (.int .u8 (y.toNat : Int))).cell? ⟨w.heap.size, m, none⟩ = some (.int .u8 (y.toNat : Int)) := by
        rw [World.cell?_setCell_other _ _ _ _ (by intro h; injection h; omega)]; exact c2
      have Hkm := Lib.hid hkm
      clear hkm
      have Hrow := Lib.hid hrow
      have Hb := Lib.hid hb
      have Hm := Lib.hid hm
      have Hx := Lib.hid hx
      have Hy := Lib.hid hy
      clear hrow hb hm hx hy
      go_wp2
      go_region
      go_wp2
      go_roundw
      case rel =>
        refine ⟨k + 1, by omega, by go_num, ?_, ?_⟩
        · refine ((((Hrow.out.set k (.int .u8 (y.toNat : Int))).set m (.int .u8 (x.toNat : Int)))).drewN 1).congr fun t ht => ?_
          have hmo := Hm.out
          by_cases h1 : t = m
          · subst h1
            rw [if_pos rfl, if_pos (by omega), Hx.out]
            have : l.length - 1 - t = k := by omega
            simp [bcell, ht, this, show k < l.length by omega]
          · rw [if_neg h1]
            by_cases h2 : t = k
            · subst h2
              rw [if_pos rfl, if_pos (by omega), Hy.out, hmo]
              have : l.length - 1 - t < l.length := by omega
              simp [bcell, ht, this]
            · rw [if_neg h2]
              by_cases h3 : t < k ∨ l.length - k ≤ t
              · rw [if_pos h3, if_pos (by omega)]
              · rw [if_neg h3, if_neg (by omega)]
        · exact ((Hb.out.setCell (p := ⟨w.heap.size, k, none⟩) (Nat.le_refl _) _).setCell (p := ⟨w.heap.size, m, none⟩) (Nat.le_refl _) _).drew
      case measure => simp [intOf] <;> omega
    · have hk2 : k = l.length / 2 := by omega
      have hconv := fun cc => conv_Row (P := Try.prog) (src := 63) (dst := 9) (cap := cc) l.reverse Try.underlying63 Try.underlying5 Try.underlying9 hrow (by simp) (fun i hi => by
        have hi' : i < l.length := by simpa using hi
        by_cases h : i < k ∨ l.length - k ≤ i
        · rw [if_pos h]; simp [hi']
        · rw [if_neg h]
          have h2 : l.length - 1 - i = i := by omega
          simp [hi', h2])
      clear hrow hk2
      go_wp2
      go_ret
      exact ⟨rfl, hb⟩


theorem parts_lit (ps : List (List UInt8)) (cs : Array Value) (hcs : cs = (ps.map str).toArray) (w : World) (t : TypeId) : Parts (w.alloc (.cells cs t)) w.heap.size ps := by
  subst hcs
  intro j hj
  rw [cell_of_row _ _ _ _ _ _ (heap_alloc_new w _)]
  simp [hj, str]
theorem crc_lit (ps : List (List UInt8)) (cs : Array Value) (hcs : cs = (ps.map str).toArray) (n : Nat) (hn : n = ps.length) (hlen : ps.length ≤ 1000) (hl : ∀ p ∈ ps, p.length ≤ 9223372036854775807) (r : Nat) (hr : r = crcL ps.flatten) (g : Nat) (w : World) (hg : g = w.heap.size) :
    Calls Try.prog 110 #[.slice (some ⟨g, 0, none⟩) n n] (w.alloc (.cells cs 9)) fun e w' => e = .returned (.int .u32 r) ∧ w.alloc (.cells cs 9) = w' := by
  subst hn hr hg
  exact crc_any _ _ ps _ (parts_lit ps cs hcs w _) hlen hl
def le4 (n : Nat) : List UInt8 := [UInt8.ofNat n, UInt8.ofNat (n / 256), UInt8.ofNat (n / 65536), UInt8.ofNat (n / 16777216)]
def markL (l : List UInt8) : List UInt8 := l ++ le4 (crcL l)
theorem le4_eq (n : Nat) : (putL n (cl8 4)).reverse = le4 n := by
  have : cl8 4 = 4 := by decide
  rw [this]
  simp [putL, le4]
theorem crcL_lt (l : List UInt8) : crcL l < 4294967296 := by unfold crcL; omega
theorem markL_length (l : List UInt8) : (markL l).length = l.length + 4 := by simp [markL, le4]

set_option maxRecDepth 100000 in
set_option maxHeartbeats 800000 in
theorem mark_any (l : List UInt8) (w : World) (hl : l.length ≤ 1000000) :
    Calls Try.prog 96 #[.string ⟨l.toArray⟩] w fun e w' => e = .returned (.string ⟨(markL l).toArray⟩) ∧ Below w.heap.size w w' := by
  obtain ⟨c, hc⟩ : ∃ c, c = crcL l := ⟨_, rfl⟩
  have hcl := crcL_lt l
  rw [← hc] at hcl
  have C1 := Lib.hid (crc_lit [l] #[.string ⟨l.toArray⟩] rfl 1 rfl (by simp) (by simp; omega) c (by simp [hc]))
  obtain ⟨p, hp⟩ : ∃ p, p = putL c (cl8 4) := ⟨_, rfl⟩
  have P1 := Lib.hid (put_is c 4 p (by omega) hp)
  have hpl : p.length ≤ 1000000 := by rw [hp, putL_length]; have := cl8_le 4; omega
  have hpl4 : p.reverse.length ≤ 100 := by rw [List.length_reverse, hp, putL_length]; have := cl8_le 4; omega
  have T1 := Lib.hid (fun w => turned_any p w hpl)
  have hr : markL l = l ++ p.reverse := by rw [markL, ← hc, ← le4_eq, hp]
  have Hr := Lib.hid hr
  clear hr hp hc
  go_enter Try.func96, Try.ntmps96
  go_wp2_with fail
  refine (C1.out _ w rfl).mono ?_
  rintro e w1 ⟨rfl, rfl⟩
  go_wp2_with fail
  refine (P1.out _).mono ?_
  rintro e w2 ⟨rfl, hb2⟩
  go_wp2_with fail
  refine (T1.out _).mono ?_
  rintro e w3 ⟨rfl, hb3⟩
  go_wp2
  go_ret
  exact ⟨ret_str Hr.out.symm, (((Below.refl _ _).alloc (Nat.le_refl _) _).trans' hb2).trans' hb3⟩

theorem conv_four {P : Program} {src dst e : TypeId} (hs : P.underlying src = some (.slice e)) (he : P.underlying e = some (.int .u8)) (hd : P.underlying dst = some .string) (W : World) (x0 x1 x2 x3 : Int) (b0 b1 b2 b3 : UInt8)
    (h0 : (b0.toNat : Int) = x0) (h1 : (b1.toNat : Int) = x1) (h2 : (b2.toNat : Int) = x2) (h3 : (b3.toNat : Int) = x3) :
    (convert src dst (.slice (some ⟨W.heap.size, 0, none⟩) 4 4)).run P (W.alloc (.cells #[.int .u8 x0, .int .u8 x1, .int .u8 x2, .int .u8 x3] e)) = .ok (.string ⟨[b0, b1, b2, b3].toArray⟩) (W.alloc (.cells #[.int .u8 x0, .int .u8 x1, .int .u8 x2, .int .u8 x3] e)) := by
  subst h0 h1 h2 h3
  refine conv_row (n := 4) (f := fun i => bcell ([b0, b1, b2, b3].getD i 0)) [b0, b1, b2, b3] hs he hd (World.rowIs_alloc W #[bcell b0, bcell b1, bcell b2, bcell b3] e _ ?_) rfl ?_
  · intro i hi
    match i, hi with
    | 0, _ => rfl
    | 1, _ => rfl
    | 2, _ => rfl
    | 3, _ => rfl
  · intro i hi
    match i, hi with
    | 0, _ => rfl
    | 1, _ => rfl
    | 2, _ => rfl
    | 3, _ => rfl

set_option maxRecDepth 100000 in
set_option maxHeartbeats 800000 in
theorem rmark_any (l : List UInt8) (w : World) (hl : l.length ≤ 1000000) :
    Calls Try.prog 97 #[.string ⟨l.toArray⟩] w fun e w' => e = .returned (.string ⟨(markL l).toArray⟩) ∧ Below w.heap.size w w' := by
  obtain ⟨c, hc⟩ : ∃ c, c = crcL l := ⟨_, rfl⟩
  have hcl := crcL_lt l
  have C1 := Lib.hid (fun w => rcrc_any l w (by omega))
  rw [← hc] at hcl C1
  have hr : markL l = l ++ le4 c := by rw [markL, ← hc]
  have Hr := Lib.hid hr
  clear hr hc
  have hcv := fun W => conv_four (P := Try.prog) Try.underlying63 Try.underlying5 Try.underlying9 W ((c : Int) % 256) ((c : Int) / 256 % 256) ((c : Int) / 65536 % 256) ((c : Int) / 16777216) (UInt8.ofNat c) (UInt8.ofNat (c / 256)) (UInt8.ofNat (c / 65536)) (UInt8.ofNat (c / 16777216))
    (ofNat_toNat _) (by rw [ofNat_toNat]; omega) (by rw [ofNat_toNat]; omega) (by rw [ofNat_toNat]; omega)
  go_enter Try.func97, Try.ntmps97
  go_wp2_with fail
  refine (C1.out _).mono ?_
  rintro e w1 ⟨rfl, rfl⟩
  go_wp2
  go_ret
  exact ⟨ret_str Hr.out.symm, (Below.refl _ _).alloc (Nat.le_refl _) _⟩

set_option maxRecDepth 100000 in
set_option maxHeartbeats 800000 in
theorem check_short (l : List UInt8) (w : World) (hl : l.length < 4) :
    Calls Try.prog 112 #[.string ⟨l.toArray⟩] w fun e w' => e = .returned (.tuple #[.string ⟨#[]⟩, .int .i64 3]) ∧ w = w' := by
  go_enter Try.func112, Try.ntmps112
  go_wp2
  go_ret2
  exact ⟨rfl, rfl⟩

set_option maxRecDepth 100000 in
set_option maxHeartbeats 800000 in
theorem check_ok (l : List UInt8) (w : World) (hl : l.length ≤ 1000000) :
    Calls Try.prog 112 #[.string ⟨(markL l).toArray⟩] w fun e w' => e = .returned (.tuple #[.string ⟨l.toArray⟩, .int .i64 0]) ∧ Below w.heap.size w w' := by
  obtain ⟨m, hm⟩ : ∃ m, m = markL l := ⟨_, rfl⟩
  have M1 := Lib.hid (fun w => mark_any l w hl)
  have hlen := markL_length l
  rw [← hm] at M1 hlen ⊢
  have ht : m.take l.length = l := by rw [hm, markL]; simp
  have h4 : 4 ≤ m.length := by omega
  have h5 : m.length ≤ 2000000 := by omega
  have hl4 : ((m.length : Int) - 4) = l.length := by omega
  clear hm hlen
  go_enter Try.func112, Try.ntmps112
  go_wp2_with fail
  refine (M1.out _).mono ?_
  rintro e w1 ⟨rfl, hb⟩
  go_wp2
  go_ret2
  exact ⟨rfl, hb⟩

set_option maxRecDepth 100000 in
set_option maxHeartbeats 800000 in
theorem check_bad (l t : List UInt8) (w : World) (hl : l.length ≤ 1000000) (h4 : 4 ≤ l.length) (ht : t = l.take (l.length - 4)) (hne : markL t ≠ l) :
    Calls Try.prog 112 #[.string ⟨l.toArray⟩] w fun e w' => e = .returned (.tuple #[.string ⟨#[]⟩, .int .i64 9]) ∧ Below w.heap.size w w' := by
  have htl : t.length ≤ 1000000 := by rw [ht, List.length_take]; omega
  have M1 := Lib.hid (fun w => mark_any t w htl)
  obtain ⟨m, hm⟩ : ∃ m, m = markL t := ⟨_, rfl⟩
  rw [← hm] at M1 hne
  have hb : (m == l) = false := by rw [beq_eq_false_iff_ne]; exact hne
  obtain ⟨k, hk⟩ : ∃ k, k = l.length - 4 := ⟨_, rfl⟩
  have hl4 : ((l.length : Int) - 4) = k := by omega
  rw [← hk] at ht
  have ht' := ht.symm
  clear hm hk ht
  go_enter Try.func112, Try.ntmps112
  go_wp2_with fail
  refine (M1.out _).mono ?_
  rintro e w1 ⟨rfl, hb⟩
  go_wp2
  go_ret2
  exact ⟨rfl, hb⟩

end Go.Proofs.Ythlggigjnpldcaa
