/- Plain facts on the two sums: each step is linear, none loses anything; a burst of at most 32 bits is seen. No program in sight but for the definitions. -/
import Derived.Test.YtgmafhogkdhadaaSum
namespace Go.Proofs.Ytgmafhogkdhadaa

theorem xor_half (a b : Nat) : (a ^^^ b) / 2 = a / 2 ^^^ b / 2 := Nat.xor_div_two
theorem xor_odd (a b : Nat) : (a ^^^ b) % 2 = (a % 2 + b % 2) % 2 := by
  have h := Nat.testBit_xor a b 0
  simp only [Nat.testBit_zero] at h
  rcases Nat.mod_two_eq_zero_or_one a with ha | ha <;> rcases Nat.mod_two_eq_zero_or_one b with hb | hb <;> rcases Nat.mod_two_eq_zero_or_one (a ^^^ b) with hc | hc <;> simp_all
theorem xor4 (a b c : Nat) : (a ^^^ c) ^^^ (b ^^^ c) = a ^^^ b := by
  rw [Nat.xor_assoc, ← Nat.xor_assoc c b c, Nat.xor_comm c b, Nat.xor_assoc b c c, Nat.xor_self, Nat.xor_zero]
theorem step1_xor (a b : Nat) : step1 (a ^^^ b) = step1 a ^^^ step1 b := by
  have h := xor_odd a b
  unfold step1
  by_cases ha : a % 2 = 1 <;> by_cases hb : b % 2 = 1
  · rw [if_neg (by omega), if_pos ha, if_pos hb, xor_half, xor4]
  · rw [if_pos (by omega), if_pos ha, if_neg hb, xor_half, Nat.xor_assoc, Nat.xor_comm (b / 2), ← Nat.xor_assoc]
  · rw [if_pos (by omega), if_neg ha, if_pos hb, xor_half, Nat.xor_assoc]
  · rw [if_neg (by omega), if_neg ha, if_neg hb, xor_half]
theorem stepN_xor (k a b : Nat) : stepN k (a ^^^ b) = stepN k a ^^^ stepN k b := by
  induction k generalizing a b with
  | zero => rfl
  | succ k ih => rw [stepN, stepN, stepN, step1_xor, ih]
theorem xor_zero_eq {a b : Nat} (h : a ^^^ b = 0) : a = b := by
  rw [← Nat.xor_zero a, ← Nat.xor_self b, ← Nat.xor_assoc, h, Nat.zero_xor]
theorem step1_zero {n : Nat} (hn : n < 4294967296) (h : step1 n = 0) : n = 0 := by
  unfold step1 at h
  split at h
  · have := xor_zero_eq h; omega
  · omega
theorem stepN_zero (k : Nat) {n : Nat} (hn : n < 4294967296) (h : stepN k n = 0) : n = 0 := by
  induction k generalizing n with
  | zero => exact h
  | succ k ih => exact step1_zero hn (ih (step1_lt hn) h)
theorem stepN_inj (k : Nat) {a b : Nat} (ha : a < 4294967296) (hb : b < 4294967296) (h : stepN k a = stepN k b) : a = b := by
  refine xor_zero_eq (stepN_zero k (Nat.xor_lt_two_pow (n := 32) ha hb) ?_)
  rw [stepN_xor, h, Nat.xor_self]
theorem xor_left_inj {a b c : Nat} (h : a ^^^ c = b ^^^ c) : a = b := by
  refine xor_zero_eq ?_
  rw [← xor4 a b c, h, Nat.xor_self]
theorem stepB_inj {a b : Nat} (c : UInt8) (ha : a < 4294967296) (hb : b < 4294967296) (h : stepB a c = stepB b c) : a = b :=
  xor_left_inj (stepN_inj 8 (xor_byte_lt c ha) (xor_byte_lt c hb) h)
theorem stepB_inj2 {a : Nat} (c d : UInt8) (ha : a < 4294967296) (h : stepB a c = stepB a d) : c = d := by
  have h1 := stepN_inj 8 (xor_byte_lt c ha) (xor_byte_lt d ha) h
  rw [Nat.xor_comm a, Nat.xor_comm a] at h1
  exact UInt8.toNat_inj.1 (xor_left_inj h1)
theorem crcRun_inj (l : List UInt8) {a b : Nat} (ha : a < 4294967296) (hb : b < 4294967296) (h : crcRun a l = crcRun b l) : a = b := by
  induction l generalizing a b with
  | nil => exact h
  | cons c l ih => exact stepB_inj c ha hb (ih (stepB_lt c ha) (stepB_lt c hb) h)
theorem crcL_eq {a b : List UInt8} : crcL a = crcL b ↔ crcRun 4294967295 a = crcRun 4294967295 b := by
  have h1 := crcRun_lt a (n := 4294967295) (by omega)
  have h2 := crcRun_lt b (n := 4294967295) (by omega)
  unfold crcL
  omega
theorem crc_mid (p q : List UInt8) (c d : UInt8) (h : crcL (p ++ c :: q) = crcL (p ++ d :: q)) : c = d := by
  rw [crcL_eq, crcRun_append, crcRun_append] at h
  have hl := crcRun_lt p (n := 4294967295) (by omega)
  exact stepB_inj2 c d hl (crcRun_inj q (stepB_lt c hl) (stepB_lt d hl) h)

/-! ### the quick sum -/
theorem unmul (x : Nat) (h : x < 18446744073709551616) : x * 1099511628211 % 18446744073709551616 * 14886173955864302971 % 18446744073709551616 = x := by
  rw [Nat.mod_mul_mod, Nat.mul_assoc, Nat.mul_mod]
  have : 1099511628211 * 14886173955864302971 % 18446744073709551616 = 1 := by decide
  rw [this, Nat.mul_one, Nat.mod_mod]
  exact Nat.mod_eq_of_lt h
theorem mul_inj {x y : Nat} (hx : x < 18446744073709551616) (hy : y < 18446744073709551616) (h : x * 1099511628211 % 18446744073709551616 = y * 1099511628211 % 18446744073709551616) : x = y := by
  rw [← unmul x hx, h, unmul y hy]
theorem xor_byte_lt64 {n : Nat} (c : UInt8) (h : n < 18446744073709551616) : n ^^^ c.toNat < 18446744073709551616 :=
  Nat.xor_lt_two_pow (n := 64) h (by have := c.toNat_lt; omega)
theorem quickB_inj {a b : Nat} (c : UInt8) (ha : a < 18446744073709551616) (hb : b < 18446744073709551616) (h : quickB a c = quickB b c) : a = b :=
  xor_left_inj (mul_inj (xor_byte_lt64 c ha) (xor_byte_lt64 c hb) h)
theorem quickB_inj2 {a : Nat} (c d : UInt8) (ha : a < 18446744073709551616) (h : quickB a c = quickB a d) : c = d := by
  have h1 := mul_inj (xor_byte_lt64 c ha) (xor_byte_lt64 d ha) h
  rw [Nat.xor_comm a, Nat.xor_comm a] at h1
  exact UInt8.toNat_inj.1 (xor_left_inj h1)
theorem quickRun_inj (l : List UInt8) {a b : Nat} (ha : a < 18446744073709551616) (hb : b < 18446744073709551616) (h : quickRun a l = quickRun b l) : a = b := by
  induction l generalizing a b with
  | nil => exact h
  | cons c l ih => exact quickB_inj c ha hb (ih (quickB_lt a c) (quickB_lt b c) h)
theorem quick_mid (p q : List UInt8) (c d : UInt8) (h : quickL (p ++ c :: q) = quickL (p ++ d :: q)) : c = d := by
  unfold quickL at h
  rw [quickRun_append, quickRun_append] at h
  have hl := quickRun_lt p (n := 14695981039346656037) (by omega)
  exact quickB_inj2 c d hl (quickRun_inj q (quickB_lt _ c) (quickB_lt _ d) h)

/-! ### bit by bit -/
def bitRun (n : Nat) (bs : List Bool) : Nat := bs.foldl (fun r b => step1 (r ^^^ b.toNat)) n
def bitsN : Nat → Nat → List Bool
  | 0, _ => []
  | k + 1, x => (x % 2 == 1) :: bitsN k (x / 2)
theorem bit_split (x : Nat) : (x % 2 == 1).toNat ^^^ 2 * (x / 2) = x := by
  refine Nat.eq_of_testBit_eq fun i => ?_
  rw [Nat.testBit_xor]
  rcases i with _ | i
  · rw [Nat.testBit_zero, Nat.testBit_zero, Nat.testBit_zero]
    rcases Nat.mod_two_eq_zero_or_one x with h | h <;> simp [h]
  · rw [Nat.testBit_succ, Nat.testBit_succ, Nat.testBit_succ]
    rcases Nat.mod_two_eq_zero_or_one x with h | h <;> simp [h]
theorem step1_double (y : Nat) : step1 (2 * y) = y := by unfold step1; rw [if_neg (by omega)]; omega
theorem bitRun_N (k x n : Nat) (hx : x < 2 ^ k) : stepN k (n ^^^ x) = bitRun n (bitsN k x) := by
  induction k generalizing n x with
  | zero => have : x = 0 := by simpa using hx
            subst this; simp [stepN, bitsN, bitRun]
  | succ k ih =>
    have h := ih (x / 2) (step1 (n ^^^ (x % 2 == 1).toNat)) (by rw [Nat.pow_succ] at hx; omega)
    rw [stepN, bitsN]
    show _ = bitRun (step1 (n ^^^ (x % 2 == 1).toNat)) (bitsN k (x / 2))
    rw [← h]
    conv => lhs; arg 2; rw [← bit_split x, ← Nat.xor_assoc, step1_xor, step1_double]
theorem bitRun_append (n : Nat) (a b : List Bool) : bitRun n (a ++ b) = bitRun (bitRun n a) b := by simp [bitRun]
theorem bitsN_length (k x : Nat) : (bitsN k x).length = k := by induction k generalizing x <;> simp_all [bitsN]
theorem bitsN_get (k x i : Nat) (h : i < k) : (bitsN k x).getD i false = x.testBit i := by
  induction k generalizing x i with
  | zero => omega
  | succ k ih =>
    rcases i with _ | i
    · rw [Nat.testBit_zero, bitsN]; rfl
    · rw [bitsN, List.getD_cons_succ, ih _ _ (by omega), Nat.testBit_succ]
def bitsL (l : List UInt8) : List Bool := l.flatMap fun c => bitsN 8 c.toNat
theorem crcRun_bits (n : Nat) (l : List UInt8) : crcRun n l = bitRun n (bitsL l) := by
  induction l generalizing n with
  | nil => rfl
  | cons c l ih =>
    show crcRun (stepB n c) l = bitRun n (bitsN 8 c.toNat ++ bitsL l)
    rw [ih, bitRun_append, ← bitRun_N 8 c.toNat n c.toNat_lt]; rfl
theorem bitsL_length (l : List UInt8) : (bitsL l).length = 8 * l.length := by
  induction l with
  | nil => rfl
  | cons c l ih => simp only [bitsL, List.flatMap_cons, List.length_append, bitsN_length] at ih ⊢; rw [ih, List.length_cons]; omega
def bitAt (l : List UInt8) (j : Nat) : Bool := (l.getD (j / 8) 0).toNat.testBit (j % 8)
theorem bitsL_get (l : List UInt8) (j : Nat) (h : j < 8 * l.length) : (bitsL l).getD j false = bitAt l j := by
  induction l generalizing j with
  | nil => simp at h
  | cons c l ih =>
    simp only [bitsL, List.flatMap_cons]
    by_cases hj : j < 8
    · rw [getD_app _ _ _ _ (by rw [bitsN_length]; exact hj), bitsN_get _ _ _ hj, bitAt, Nat.div_eq_of_lt hj, Nat.mod_eq_of_lt hj]; rfl
    · rw [getD_app2 _ _ _ _ (by rw [bitsN_length]; omega), bitsN_length]
      have := ih (j - 8) (by rw [List.length_cons] at h; omega)
      rw [bitsL] at this
      rw [this, bitAt, bitAt]
      have e1 : j / 8 = (j - 8) / 8 + 1 := by omega
      have e2 : j % 8 = (j - 8) % 8 := by omega
      rw [e1, e2, List.getD_cons_succ]

/-! ### the difference of two rows of bits -/
def xorL (a b : List Bool) : List Bool := List.zipWith (fun x y => x ^^ y) a b
theorem toNat_xor (x y : Bool) : (x ^^ y).toNat = x.toNat ^^^ y.toNat := by cases x <;> cases y <;> rfl
theorem bitRun_xor (a b : List Bool) (h : a.length = b.length) (m n : Nat) : bitRun (m ^^^ n) (xorL a b) = bitRun m a ^^^ bitRun n b := by
  induction a generalizing b m n with
  | nil => cases b with
    | nil => rfl
    | cons y b => simp at h
  | cons x a ih =>
    cases b with
    | nil => simp at h
    | cons y b =>
      have h' : a.length = b.length := by simpa using h
      show bitRun (step1 (m ^^^ n ^^^ (x ^^ y).toNat)) (xorL a b) = bitRun (step1 (m ^^^ x.toNat)) a ^^^ bitRun (step1 (n ^^^ y.toNat)) b
      rw [← ih b h', toNat_xor, ← step1_xor]
      congr 2
      rw [Nat.xor_assoc m n, ← Nat.xor_assoc n x.toNat, Nat.xor_comm n x.toNat, Nat.xor_assoc x.toNat, ← Nat.xor_assoc m]
def valL : List Bool → Nat
  | [] => 0
  | b :: f => b.toNat + 2 * valL f
theorem valL_lt (f : List Bool) : valL f < 2 ^ f.length := by
  induction f with
  | nil => simp [valL]
  | cons b f ih => rw [valL, List.length_cons, Nat.pow_succ]; cases b <;> simp <;> omega
theorem bitsN_val (f : List Bool) : bitsN f.length (valL f) = f := by
  induction f with
  | nil => rfl
  | cons b f ih =>
    rw [List.length_cons, bitsN, valL]
    have e1 : (b.toNat + 2 * valL f) / 2 = valL f := by cases b <;> simp <;> omega
    have e2 : ((b.toNat + 2 * valL f) % 2 == 1) = b := by cases b <;> simp
    rw [e1, e2, ih]
theorem valL_zero (f : List Bool) (h : valL f = 0) : ∀ b ∈ f, b = false := by
  induction f with
  | nil => simp
  | cons b f ih =>
    rw [valL] at h
    intro c hc
    rcases List.mem_cons.1 hc with rfl | hc
    · cases c <;> simp_all
    · exact ih (by omega) c hc
theorem bitRun_short (f : List Bool) (h : f.length ≤ 32) (h0 : bitRun 0 f = 0) : ∀ b ∈ f, b = false := by
  have h1 := bitRun_N f.length (valL f) 0 (valL_lt f)
  rw [bitsN_val, h0, Nat.zero_xor] at h1
  refine valL_zero f (stepN_zero f.length (Nat.lt_of_lt_of_le (valL_lt f) ?_) h1)
  exact Nat.le_trans (Nat.pow_le_pow_right (by decide) h) (by decide)
theorem bitRun_zeros (z : List Bool) (hz : ∀ b ∈ z, b = false) (n : Nat) : bitRun n z = stepN z.length n := by
  induction z generalizing n with
  | nil => rfl
  | cons b z ih =>
    have hb : b = false := hz b (by simp)
    subst hb
    show bitRun (step1 (n ^^^ 0)) z = stepN z.length (step1 n)
    rw [ih (fun b hb => hz b (by simp [hb])), Nat.xor_zero]
theorem stepN_of_zero (k : Nat) : stepN k 0 = 0 := by
  induction k with
  | zero => rfl
  | succ k ih => rw [stepN]; exact ih
theorem bitRun_lt (f : List Bool) (n : Nat) (h : n < 4294967296) : bitRun n f < 4294967296 := by
  induction f generalizing n with
  | nil => exact h
  | cons b f ih => exact ih _ (step1_lt (Nat.xor_lt_two_pow (n := 32) h (by cases b <;> simp)))
/-- Zeros, at most 32 bits, zeros: the run is 0 only where all of them are 0. -/
theorem burst_zero (a f z : List Bool) (ha : ∀ b ∈ a, b = false) (hz : ∀ b ∈ z, b = false) (hf : f.length ≤ 32) (h : bitRun 0 (a ++ (f ++ z)) = 0) : ∀ b ∈ f, b = false := by
  rw [bitRun_append, bitRun_append, bitRun_zeros a ha, stepN_of_zero, bitRun_zeros z hz] at h
  exact bitRun_short f hf (stepN_zero _ (bitRun_lt f 0 (by decide)) h)

/-! ### marked texts -/
theorem bitsN_add (a b x : Nat) : bitsN (a + b) x = bitsN a x ++ bitsN b (x / 2 ^ a) := by
  induction a generalizing x with
  | zero => simp [bitsN]
  | succ a ih => rw [Nat.succ_add, bitsN, ih, bitsN, List.cons_append, Nat.div_div_eq_div_mul, Nat.pow_succ, Nat.mul_comm]
theorem bitsN_mod (k x : Nat) : bitsN k (x % 2 ^ k) = bitsN k x := by
  induction k generalizing x with
  | zero => rfl
  | succ k ih =>
    rw [bitsN, bitsN]
    have e1 : x % 2 ^ (k + 1) % 2 = x % 2 := Nat.mod_mod_of_dvd x ⟨2 ^ k, by rw [Nat.pow_succ, Nat.mul_comm]⟩
    have e2 : x % 2 ^ (k + 1) / 2 = x / 2 % 2 ^ k := by rw [Nat.pow_succ, Nat.mul_comm, Nat.mod_mul_right_div_self]
    rw [e1, e2, ih]
theorem bits_byte (x : Nat) : bitsN 8 (UInt8.ofNat x).toNat = bitsN 8 x := by rw [UInt8.toNat_ofNat', bitsN_mod]
theorem bits_le4 (x : Nat) : bitsL (le4 x) = bitsN 32 x := by
  have e : bitsN 32 x = bitsN 8 x ++ (bitsN 8 (x / 2 ^ 8) ++ (bitsN 8 (x / 2 ^ 8 / 2 ^ 8) ++ bitsN 8 (x / 2 ^ 8 / 2 ^ 8 / 2 ^ 8))) := by
    rw [show 32 = 8 + (8 + (8 + 8)) from rfl, bitsN_add, bitsN_add, bitsN_add]
  rw [e, Nat.div_div_eq_div_mul, Nat.div_div_eq_div_mul]
  simp only [bitsL, le4, List.flatMap_cons, List.flatMap_nil, List.append_nil, bits_byte]
theorem crcRun_mark (l : List UInt8) : crcRun 4294967295 (markL l) = stepN 32 4294967295 := by
  have hR := crcRun_lt l (n := 4294967295) (by omega)
  have hc : crcL l = 4294967295 - crcRun 4294967295 l := rfl
  rw [markL, crcRun_append, hc]
  generalize crcRun 4294967295 l = R at *
  rw [crcRun_bits, bits_le4, ← bitRun_N 32 _ _ (by omega), ← not32 R hR, Nat.xor_comm 4294967295, ← Nat.xor_assoc, Nat.xor_self, Nat.zero_xor]

theorem getD_xorL (a b : List Bool) (h : a.length = b.length) (j : Nat) : (xorL a b).getD j false = (a.getD j false ^^ b.getD j false) := by
  induction a generalizing b j with
  | nil => cases b with
    | nil => simp [xorL]
    | cons y b => simp at h
  | cons x a ih => cases b with
    | nil => simp at h
    | cons y b =>
      rcases j with _ | j
      · simp [xorL]
      · simp only [xorL, List.zipWith_cons_cons, List.getD_cons_succ]
        exact ih b (by simpa using h) j
/-- Two texts of one length, both marked, that differ in a window of 32 bits alone are one. -/
theorem burst_same (m b : List UInt8) (k : Nat) (hl : b.length = m.length) (hm : crcRun 4294967295 m = stepN 32 4294967295) (hb : crcRun 4294967295 b = stepN 32 4294967295)
    (hw : ∀ j, (j < k ∨ k + 32 ≤ j) → bitAt b j = bitAt m j) : b = m := by
  have hx := bitRun_xor (bitsL b) (bitsL m) (by rw [bitsL_length, bitsL_length, hl]) 4294967295 4294967295
  rw [← crcRun_bits, ← crcRun_bits, hm, hb, Nat.xor_self, Nat.xor_self] at hx
  obtain ⟨e, he⟩ : ∃ e, e = xorL (bitsL b) (bitsL m) := ⟨_, rfl⟩
  have hel : e.length = 8 * m.length := by rw [he, xorL, List.length_zipWith, bitsL_length, bitsL_length, hl]; omega
  have heg : ∀ j, j < 8 * m.length → e.getD j false = (bitAt b j ^^ bitAt m j) := fun j hj => by
    rw [he, getD_xorL _ _ (by rw [bitsL_length, bitsL_length, hl]), bitsL_get _ _ (by omega), bitsL_get _ _ hj]
  have hsplit : e = e.take k ++ ((e.drop k).take 32 ++ (e.drop k).drop 32) := by rw [List.take_append_drop, List.take_append_drop]
  rw [← he, hsplit] at hx
  have hz : ∀ j, (j < k ∨ k + 32 ≤ j) → j < e.length → e.getD j false = false := fun j hj hj2 => by
    rw [heg j (by omega), hw j hj]; simp
  have hmid := burst_zero (e.take k) ((e.drop k).take 32) ((e.drop k).drop 32)
    (fun c hc => by
      obtain ⟨j, hj, rfl⟩ := List.getElem_of_mem hc
      rw [List.length_take] at hj
      have := hz j (.inl (by omega)) (by omega)
      rw [List.getElem_take]
      rw [getD_get _ _ _ (by omega)] at this
      exact this)
    (fun c hc => by
      obtain ⟨j, hj, rfl⟩ := List.getElem_of_mem hc
      rw [List.length_drop, List.length_drop] at hj
      have := hz (k + (32 + j)) (.inr (by omega)) (by omega)
      rw [List.getElem_drop, List.getElem_drop]
      rw [getD_get _ _ _ (by omega)] at this
      exact this)
    (by rw [List.length_take]; omega) hx
  have hall : ∀ j, j < 8 * m.length → bitAt b j = bitAt m j := fun j hj => by
    by_cases h1 : j < k ∨ k + 32 ≤ j
    · exact hw j h1
    · have hj2 : j < e.length := by omega
      have : e[j] = false := hmid _ (by
        have hlt : j - k < ((e.drop k).take 32).length := by rw [List.length_take, List.length_drop]; omega
        have : ((e.drop k).take 32)[j - k] = e[j] := by
          rw [List.getElem_take, List.getElem_drop]; congr 1; omega
        rw [← this]; exact List.getElem_mem hlt)
      have h2 := heg j hj
      rw [getD_get _ _ _ hj2, this] at h2
      revert h2
      cases bitAt b j <;> cases bitAt m j <;> simp
  refine List.ext_getElem hl fun i h1 h2 => ?_
  refine UInt8.toNat_inj.1 (Nat.eq_of_testBit_eq fun t => ?_)
  by_cases ht : t < 8
  · have := hall (8 * i + t) (by omega)
    unfold bitAt at this
    rw [show (8 * i + t) / 8 = i by omega, show (8 * i + t) % 8 = t by omega, getD_get _ _ _ h1, getD_get _ _ _ h2] at this
    exact this
  · have hb1 := b[i].toNat_lt
    have hb2 := m[i].toNat_lt
    have hp : 2 ^ 8 ≤ 2 ^ t := Nat.pow_le_pow_right (by decide) (by omega)
    rw [Nat.testBit_lt_two_pow (by omega), Nat.testBit_lt_two_pow (by omega)]

end Go.Proofs.Ytgmafhogkdhadaa
