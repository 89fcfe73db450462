/- What the functions of package word, and the reference's, compute: one contract a function. -/
import Derived.Test.YtckbbcjbbmgmoaaDoorBase
import Derived.ScopeJumps
namespace Go.Proofs.YtckbbcjbbmgmoaaDoor
open Go.RowKit

theorem i5 : (Tryd.prog.info? 5).map (fun i => (i.zero, i.size, i.bytes)) = some (some (.int .u8 0), 1, 1) := by kernel_rfl

def cl8 (k : Int) : Nat := (min (max k 0) 8).toNat
def putL (n : Nat) : Nat → List UInt8
  | 0 => []
  | i+1 => UInt8.ofNat (n / 256^i) :: putL n i

theorem cl8_le (k : Int) : cl8 k ≤ 8 := by unfold cl8; omega
theorem putL_length (n c : Nat) : (putL n c).length = c := by induction c <;> simp_all [putL]
theorem putL_get (n c t : Nat) (h : t < (putL n c).length) : (putL n c)[t] = UInt8.ofNat (n / 256 ^ (c - 1 - t)) := by
  induction c generalizing t with
  | zero => simp [putL] at h
  | succ c ih =>
    rcases t with _ | t
    · simp [putL]
    · simp only [putL, List.getElem_cons_succ]
      rw [ih]
      congr 3; omega

set_option maxRecDepth 100000 in
set_option maxHeartbeats 400000 in
theorem put_any (n : Nat) (k : Int) (w : World) (_hn : n < 18446744073709551616) :
    Calls Tryd.prog 21 #[.int .u64 n, .int .i64 k] w fun e w' => e = .returned (.string ⟨(putL n (cl8 k)).toArray⟩) ∧ Below w.heap.size w w' := by
  have h8 := cl8_le k
  have hmk := fun W => run_make_row' (P := Tryd.prog) 42 5 (.int .u8 0) 1 Tryd.underlying42 i5 rfl .i64 .i64 (cl8 k) (by omega) (by omega) W
  go_enter Tryd.func21, Tryd.ntmps21
  go_upto_region 1 with (fail)
  go_cut [1] (fun v wx => v = .int .i64 (cl8 k) ∧ w = wx)
  case first =>
    go_wp2
    all_goals (go_meet; exact ⟨by unfold cl8; go_num, rfl⟩)
  case rest =>
    obtain ⟨rfl, rfl⟩ := hcut
    generalize hc : cl8 k = c at *
    have Hc := Lib.hid hc
    clear hc
    go_wp2
    go_loopw [0, 6] (fun m i wr => ∃ j x : Nat, j ≤ c ∧ i = .int .i64 ((j : Int) - 1) ∧ m = .int .u64 (x : Int) ∧ Hid (x = n / 256 ^ (c - j)) ∧
       wr.rowIs w.heap.size 5 c (fun t => if t < j then .int .u8 0 else bcell (UInt8.ofNat (n / 256 ^ (c - 1 - t)))) ∧ Below w.heap.size w wr) (fun _ i _ => (intOf i + 1).toNat)
    case atStart =>
      refine ⟨c, n, by omega, by simp, by simp, Lib.hid (by simp), ?_, ?_⟩
      · exact (World.rowIs_made w (.int .u8 0) c 5).congr (fun i hi => by simp [hi])
      · exact (Below.refl _ _).alloc (Nat.le_refl _) _
    case round =>
      obtain ⟨j, x, hj, rfl, rfl, hx, hrow, hb⟩ := hrel
      rcases j with _ | j
      · have hconv := fun cc => conv_row (P := Tryd.prog) (src := 42) (dst := 9) (cap := cc) (putL n c) Tryd.underlying42 Tryd.underlying5 Tryd.underlying9 hrow (putL_length n c) (fun i hi => by simp [putL_get])
        go_wp2
        go_ret
        exact ⟨ret_str (by rw [Hc.out]), hb⟩
      · have hc := hrow.cell (i := j) (by omega)
        have hf := hrow.frozen j
        have hs := hrow.set j (.int .u8 ((x : Int) % 256))
        have hB := hb.setCell (p := ⟨w.heap.size, j, none⟩) (Nat.le_refl _) (.int .u8 ((x : Int) % 256))
        have h0 : ((j + 1 : Nat) : Int) - 1 = j := by omega
        rw [h0]
        simp only [Nat.lt_succ_self, if_true] at hc
        clear hrow hb h0
        go_wp2
        go_roundw
        case rel =>
          refine ⟨j, x / 256, by omega, rfl, rfl, Lib.hid ?_, hs.congr fun t ht => ?_, hB⟩
          · rw [hx.out, Nat.div_div_eq_div_mul, ← Nat.pow_succ]; congr 2; omega
          · by_cases h1 : t = j
            · subst h1; rw [if_pos rfl, if_neg (by omega), bcell_ofNat, hx.out, show c - (t + 1) = c - 1 - t by omega]
            · rw [if_neg h1]
              by_cases h2 : t < j
              · rw [if_pos h2, if_pos (by omega)]
              · rw [if_neg h2, if_neg (by omega)]
        case measure => simp [intOf] <;> omega

def getL (l : List UInt8) : Nat := l.foldl (fun n b => n * 256 + b.toNat) 0
theorem getL_snoc (l : List UInt8) (b : UInt8) : getL (l ++ [b]) = getL l * 256 + b.toNat := by simp [getL]
theorem getL_take (l : List UInt8) (k : Nat) (h : k < l.length) : getL (l.take (k + 1)) = getL (l.take k) * 256 + l[k].toNat := by
  rw [List.take_succ_eq_append_getElem h, getL_snoc]
theorem getL_lt (l : List UInt8) : getL l < 256 ^ l.length := by
  rw [← List.reverse_reverse l]
  induction l.reverse with
  | nil => simp [getL]
  | cons b l ih =>
    rw [List.reverse_cons, getL_snoc, List.length_append, List.length_singleton, Nat.pow_succ]
    have := b.toNat_lt
    omega
theorem getL_lt7 (l : List UInt8) (k : Nat) (h : k < l.length) (h8 : l.length ≤ 8) : getL (l.take k) < 72057594037927936 := by
  have h1 := getL_lt (l.take k)
  have h2 : (l.take k).length ≤ 7 := by rw [List.length_take]; omega
  have h3 : 256 ^ (l.take k).length ≤ 256 ^ 7 := Nat.pow_le_pow_right (by omega) h2
  omega
theorem or_byte (x : Nat) (b : UInt8) (h : x < 72057594037927936) : bits .or .u64 ((x : Int) * 256) (b.toNat : Int) = ((x * 256 + b.toNat : Nat) : Int) := by
  have hb := b.toNat_lt
  have := u64_or_nat (x * 256) b.toNat (by omega) (by omega)
  rw [nat_join 8 (x * 256) b.toNat (by omega) (by omega)] at this
  rw [← this]; congr 1

set_option maxRecDepth 100000 in
set_option maxHeartbeats 400000 in
theorem get_any (l : List UInt8) (w : World) (h1 : 1 ≤ l.length) (h8 : l.length ≤ 8) :
    Calls Tryd.prog 30 #[.string ⟨l.toArray⟩] w fun e w' => e = .returned (.tuple #[.int .u64 (getL l), .int .i64 0]) ∧ w = w' := by
  have hne : (l == []) = false := by cases l <;> simp_all
  have hne' : l ≠ [] := by intro h; simp [h] at h1
  go_enter Tryd.func30, Tryd.ntmps30
  go_wp2
  refine wp_scope_again 0 (fun a' w' => w = w' ∧ ∃ (k x : Nat), Hid (x = getL (l.take k)) ∧ k < l.length ∧ x < 72057594037927936 ∧ ∃ u1 u2 u3 u6 u7 u8 u9 u10 u11 u12 u13 u14 u15 u16 u17 u18 u19 u20 u21 u22 u23 u24 : Value, a' = ⟨#[.string ⟨l.toArray⟩, u1, u2, u3, .int .u64 (x : Int), .int .i64 (k : Int), u6, u7, u8, u9, u10, u11, u12, u13, u14, u15, u16, u17, u18, u19, u20, u21, u22, u23, u24], []⟩) (fun a' _ => l.length - (intOf (a'.tmps.getD 5 undef)).toNat) rfl ?_ ?_
  · rintro a' w' ⟨rfl, k, x, hx, hk, hx7, u1, u2, u3, u6, u7, u8, u9, u10, u11, u12, u13, u14, u15, u16, u17, u18, u19, u20, u21, u22, u23, u24, rfl⟩
    have hor := or_byte x l[k] hx7
    go_wp2
    · go_step3
      exact ⟨rfl, ⟨rfl, k + 1, x * 256 + l[k].toNat, Lib.hid (by rw [getL_take l k hk, hx.out]), by omega, by have := getL_lt7 l (k + 1) (by omega) h8; rw [getL_take l k hk, ← hx.out] at this; exact this, _, _, _, _, _, _, _, _, _, _, _, _, _, _, _, _, _, _, _, _, _, _, by go_num⟩, by simp [intOf] <;> omega⟩
    · go_ret2
      refine ⟨?_, rfl⟩
      have : getL l = x * 256 + l[k].toNat := by rw [hx.out, ← getL_take l k hk, List.take_of_length_le (by omega)]
      rw [this]; rfl
  · intro hP
    go_wp2
    go_step3
    simp only [Exit.then]
    apply_assumption
    exact hP.out _ _ ⟨rfl, 0, 0, Lib.hid rfl, by omega, by omega, _, _, _, _, _, _, _, _, _, _, _, _, _, _, _, _, _, _, _, _, _, _, rfl⟩


set_option maxRecDepth 100000 in
set_option maxHeartbeats 400000 in
theorem get_empty (w : World) :
    Calls Tryd.prog 30 #[.string ⟨#[]⟩] w fun e w' => e = .returned (.tuple #[.int .u64 0, .int .i64 3]) ∧ w = w' := by
  go_enter Tryd.func30, Tryd.ntmps30
  go_wp2
  go_step3
  go_wp2
  rw [Exit.noGoto_ret]
  go_ret2
  exact ⟨rfl, rfl⟩

set_option maxRecDepth 100000 in
set_option maxHeartbeats 400000 in
theorem get_long (l : List UInt8) (w : World) (h8 : 8 < l.length) (hm : l.length ≤ 9223372036854775807) :
    Calls Tryd.prog 30 #[.string ⟨l.toArray⟩] w fun e w' => e = .returned (.tuple #[.int .u64 0, .int .i64 5]) ∧ w = w' := by
  have hne : (l == []) = false := by cases l <;> simp_all
  have hne' : l ≠ [] := by intro h; simp [h] at h8
  go_enter Tryd.func30, Tryd.ntmps30
  go_wp2
  go_step3
  go_wp2
  rw [Exit.noGoto_ret]
  go_ret2
  exact ⟨rfl, rfl⟩

/-! ### Short -/
def shortL (n : Nat) : List UInt8 := if n < 128 then [UInt8.ofNat n] else UInt8.ofNat (n % 128 + 128) :: shortL (n / 128)
termination_by n
decreasing_by omega
theorem shortL_small {n : Nat} (h : n < 128) : shortL n = [UInt8.ofNat n] := by rw [shortL, if_pos h]
theorem shortL_big {n : Nat} (h : 128 ≤ n) : shortL n = UInt8.ofNat (n % 128 + 128) :: shortL (n / 128) := by rw [shortL, if_neg (by omega)]
theorem or128 (x : Nat) : bits .or .u8 ((x : Int) % 256) 128 = (x : Int) % 128 + 128 := by
  have h := u8_or_nat (x % 256) 128 (by omega) (by omega)
  have h2 : x % 256 ||| 128 = x % 128 + 128 := by
    have e1 : x % 256 = x % 128 + x / 128 % 2 * 128 := by omega
    have h3 : x / 128 % 2 = 0 ∨ x / 128 % 2 = 1 := by omega
    have j1 : ∀ y, y < 128 → 128 ||| y = 128 + y := fun y hy => nat_join 7 128 y (by decide) hy
    have e2 : ∀ y, y < 128 → (y + 128) ||| 128 = y + 128 := fun y hy => by
      rw [Nat.add_comm y 128, ← j1 y hy, Nat.or_comm 128 y, Nat.or_assoc, Nat.or_self]
    rcases h3 with h3 | h3
    · rw [e1, h3, Nat.or_comm]; simp only [Nat.zero_mul, Nat.add_zero]; rw [j1 _ (by omega)]; omega
    · rw [e1, h3, Nat.one_mul, e2 _ (by omega)]
  rw [h2] at h
  have e : (((x % 256 : Nat) : Int)) = (x : Int) % 256 := by omega
  rw [e] at h
  rw [show ((128 : Nat) : Int) = 128 from rfl] at h
  rw [h]; omega

set_option maxRecDepth 100000 in
set_option maxHeartbeats 400000 in
theorem short_any (n : Nat) (w : World) (hn : n < 18446744073709551616) :
    Calls Tryd.prog 41 #[.int .u64 n] w fun e w' => e = .returned (.string ⟨(shortL n).toArray⟩) ∧ Below w.heap.size w w' := by
  go_enter Tryd.func41, Tryd.ntmps41
  go_wp2
  refine wp_scope_again 0 (fun a' w' => Below w.heap.size w w' ∧ ∃ (x k : Nat) (v : Value) (pre : List UInt8), Hid (pre ++ shortL x = shortL n) ∧ x < 18446744073709551616 ∧ k ≤ 10 ∧ Hid (x * 128 ^ k ≤ n) ∧ w'.ownsRow w.heap.size 5 1 v k (pre.map bcell) ∧ ∃ u1 u2 u4 u5 u6 u7 u8 u9 u10 u11 u12 u13 u14 u15 u16 u17 u18 u19 : Value, a' = ⟨#[.int .u64 (x : Int), u1, u2, v, u4, u5, u6, u7, u8, u9, u10, u11, u12, u13, u14, u15, u16, u17, u18, u19], []⟩) (fun a' _ => (intOf (a'.tmps.getD 0 undef)).toNat) rfl ?_ ?_
  · rintro a' wr ⟨hb, x, k, v, pre, hpre, hx, hk, hxk, hown, u1, u2, u4, u5, u6, u7, u8, u9, u10, u11, u12, u13, u14, u15, u16, u17, u18, u19, rfl⟩
    have hor := or128 x
    have hsz := hb.size
    by_cases hlt : x < 128
    · have hx8 : ∀ w1 : World, ∀ v1, w1.ownsRow w.heap.size 5 1 v1 (k + 1) (List.map bcell pre ++ [Value.int .u8 (x : Int)]) → (convert 42 9 v1).run Tryd.prog w1 = .ok (.string ⟨(pre ++ [UInt8.ofNat x]).toArray⟩) w1 := fun w1 v1 h =>
        conv_owned (P := Tryd.prog) (src := 42) (dst := 9) (e := 5) Tryd.underlying42 Tryd.underlying5 Tryd.underlying9 (pre ++ [UInt8.ofNat x]) (by
          have e : (Value.int .u8 (x : Int)) = bcell (UInt8.ofNat x) := by rw [bcell_ofNat]; go_num
          rw [List.map_append, List.map_singleton, ← e]; exact h)
      have Hx8 := Lib.hid hx8
      clear hx8
      go_wp2_with (at_builtin; refine wpList_push _ rfl _ _ 42 rfl w.heap.size 5 (.int .u8 0) 1 Tryd.underlying42 i5 rfl _ _ _ rfl hown _ rfl rfl (by omega) (by omega) hsz ?_; intro v1 w1 hown1 hb1; have hcv := Hx8.out w1 v1 hown1; clear hown1 hown hor)
      go_ret
      exact ⟨ret_str (by rw [← hpre.out, shortL_small hlt]), hb.trans (by assumption)⟩
    · go_wp2_with (at_builtin; refine wpList_push _ rfl _ _ 42 rfl w.heap.size 5 (.int .u8 0) 1 Tryd.underlying42 i5 rfl _ _ _ rfl hown _ rfl rfl (by omega) (by omega) hsz ?_; intro v1 w1 hown1 hb1)
      go_step3
      have h128 : 128 * 128 ^ k ≤ n := Nat.le_trans (Nat.mul_le_mul_right _ (by omega)) hxk.out
      have hk9 : k + 1 ≤ 10 := by
        refine Decidable.byContradiction fun h => ?_
        have : 128 ^ 10 ≤ 128 ^ k := Nat.pow_le_pow_right (by decide) (by omega)
        have h3 : (128 : Nat) ^ 10 = 1180591620717411303424 := by decide
        omega
      exact ⟨rfl, ⟨hb.trans hb1, x / 128, k + 1, v1, pre ++ [UInt8.ofNat (x % 128 + 128)], Lib.hid (by rw [List.append_assoc, ← hpre.out, shortL_big (n := x) (by omega)]; rfl), by omega, hk9, Lib.hid (by
        rw [Nat.pow_succ]; have h4 : x / 128 * (128 ^ k * 128) ≤ x * 128 ^ k := by
          rw [Nat.mul_comm (128 ^ k) 128, ← Nat.mul_assoc]; exact Nat.mul_le_mul_right _ (by omega)
        exact Nat.le_trans h4 hxk.out), by
        rw [List.map_append, List.map_singleton, bcell_ofNat]; rw [show (((x % 128 + 128 : Nat) : Int) % 256) = (x : Int) % 128 + 128 by omega]; exact hown1, _, _, _, _, _, _, _, _, _, _, _, _, _, _, _, _, _, _, rfl⟩, by simp [intOf]; omega⟩
  · intro hP
    go_wp2
    go_step3
    simp only [Exit.then]
    apply_assumption
    exact hP.out _ _ ⟨Below.refl _ _, n, 0, _, [], Lib.hid rfl, hn, by omega, Lib.hid (by simp), World.ownsRow_nil _ _ _ _, _, _, _, _, _, _, _, _, _, _, _, _, _, _, _, _, _, _, rfl⟩

theorem put_is (n : Nat) (k : Int) (r : List UInt8) (hn : n < 18446744073709551616) (hr : r = putL n (cl8 k)) (w : World) :
    Calls Tryd.prog 21 #[.int .u64 n, .int .i64 k] w fun e w' => e = .returned (.string ⟨r.toArray⟩) ∧ Below w.heap.size w w' := by rw [hr]; exact put_any n k w hn
theorem short_is (n : Nat) (r : List UInt8) (hn : n < 18446744073709551616) (hr : r = shortL n) (w : World) :
    Calls Tryd.prog 41 #[.int .u64 n] w fun e w' => e = .returned (.string ⟨r.toArray⟩) ∧ Below w.heap.size w w' := by rw [hr]; exact short_any n w hn

end Go.Proofs.YtckbbcjbbmgmoaaDoor
