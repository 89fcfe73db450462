/- Chapter 7 (codec): what is written is read as it was; Get. -/
import Derived.Test.YthlggigjnpldcaaAcQ
namespace Go.Proofs.Ythlggigjnpldcaa
namespace Sy
open Go Go.RowKit
set_option maxRecDepth 100000
set_option linter.unusedSimpArgs false
set_option linter.unusedVariables false

theorem cb_at (p : List UInt8) (c : UInt8) (r : List UInt8) : cb (p ++ c :: r) p.length = c.toNat := by
  unfold cb
  rw [List.getD_eq_getElem?_getD, List.getElem?_append_right (Nat.le_refl _), Nat.sub_self]
  rfl
theorem lng_short (r : List UInt8) : ∀ (f m n0 : Nat) (p : List UInt8), f + p.length = 10 → m * 2 ^ (7 * p.length) < 2 ^ 64 → (0 < m ∨ p.length = 0) →
    lng (p ++ (shortL m ++ r)) f p.length n0 = (n0 + m * 2 ^ (7 * p.length), p.length + (shortL m).length, 0)
  | 0, m, n0, p, hf, hm, h0 => by
    have : p.length = 10 := by omega
    rw [this] at hm h0
    have : 2 ^ (7 * 10) ≤ m * 2 ^ (7 * 10) := Nat.le_mul_of_pos_left _ (by omega)
    omega
  | f + 1, m, n0, p, hf, hm, h0 => by
    by_cases hb : 128 ≤ m
    · rw [shortL_big hb]
      have hc : cb (p ++ (UInt8.ofNat (m % 128 + 128) :: shortL (m / 128) ++ r)) p.length = m % 128 + 128 := by
        rw [List.cons_append, cb_at]
        simp; omega
      have h9 : p.length ≠ 9 := by
        intro h
        rw [h] at hm
        have : 128 * 2 ^ (7 * 9) ≤ m * 2 ^ (7 * 9) := Nat.mul_le_mul_right _ hb
        omega
      rw [lng, if_neg (by simp), hc, if_neg (by omega), if_pos (by omega)]
      have e : p ++ (UInt8.ofNat (m % 128 + 128) :: shortL (m / 128) ++ r) = (p ++ [UInt8.ofNat (m % 128 + 128)]) ++ (shortL (m / 128) ++ r) := by simp
      have hl : (p ++ [UInt8.ofNat (m % 128 + 128)]).length = p.length + 1 := by simp
      have hp : 2 ^ (7 * (p.length + 1)) = 128 * 2 ^ (7 * p.length) := by rw [show 7 * (p.length + 1) = 7 + 7 * p.length by omega, Nat.pow_add]
      have hd : m / 128 * (128 * 2 ^ (7 * p.length)) + m % 128 * 2 ^ (7 * p.length) = m * 2 ^ (7 * p.length) := by
        rw [← Nat.mul_assoc, ← Nat.add_mul]
        congr 1; omega
      have ih := lng_short r f (m / 128) (n0 + (m % 128 + 128) % 128 * 2 ^ (7 * p.length)) (p ++ [UInt8.ofNat (m % 128 + 128)]) (by rw [hl]; omega) (by rw [hl, hp]; omega) (.inl (by omega))
      rw [hl] at ih
      rw [e, ih, hp, List.length_cons, show (m % 128 + 128) % 128 = m % 128 by omega]
      refine Prod.ext ?_ (Prod.ext ?_ rfl)
      · show n0 + m % 128 * 2 ^ (7 * p.length) + m / 128 * (128 * 2 ^ (7 * p.length)) = n0 + m * 2 ^ (7 * p.length)
        omega
      · show p.length + 1 + _ = p.length + (_ + 1)
        omega
    · rw [shortL_small (by omega)]
      have hc : cb (p ++ ([UInt8.ofNat m] ++ r)) p.length = m := by
        rw [List.singleton_append, cb_at]
        simp; omega
      have h9 : ¬ (p.length = 9 ∧ 1 < m) := by
        rintro ⟨h, h1⟩
        rw [h] at hm
        have : 2 * 2 ^ (7 * 9) ≤ m * 2 ^ (7 * 9) := Nat.mul_le_mul_right _ h1
        omega
      rw [lng, if_neg (by simp), hc, if_neg h9, if_neg (by omega), if_pos h0, Nat.mod_eq_of_lt (by omega)]
      rfl
theorem lng_of {m : Int} (h : shortOk m) (r : List UInt8) : lngN (shortZ m ++ r) = m ∧ lngK (shortZ m ++ r) = ((shortZ m).length : Int) ∧ lngE (shortZ m ++ r) = 0 := by
  have h0 := h.1
  have h1 := h.2
  have := lng_short r 10 m.toNat 0 [] rfl (by simp; omega) (.inr rfl)
  simp only [List.nil_append, List.length_nil, Nat.zero_add, Nat.mul_zero, Nat.pow_zero, Nat.mul_one] at this
  unfold lngN lngK lngE shortZ
  rw [this]
  refine ⟨?_, rfl, rfl⟩
  show ((m.toNat : Nat) : Int) = m
  omega
/-- A value's head is read. -/
theorem nxt_head {m : Int} (h : shortOk m) (g : Nat) (st : List Lv) (c : UInt8) (r : List UInt8) (hc : 1 ≤ c.toNat ∧ c.toNat ≤ 3) : nxtVal (g + 1) st (c :: (shortZ m ++ r)) =
    if c.toNat = 1 then nxtDone (nxtVal g) st (.mk 1 m [] []) r
    else if c.toNat = 2 then
      if (r.length : Int) < m then nrBad 3
      else nxtDone (nxtVal g) st (.mk 2 0 (r.take m.toNat) []) (r.drop m.toNat)
    else if st.length = 6 then nrBad 8
    else nxtShut (nxtVal g) (⟨m, []⟩ :: st) r := by
  obtain ⟨e1, e2, e3⟩ := lng_of h r
  have hcb : cb (c :: (shortZ m ++ r)) 0 = c.toNat := rfl
  have hr : nxtRest (c :: (shortZ m ++ r)) = r := by
    unfold nxtRest
    rw [List.drop_succ_cons, List.drop_zero, e2]
    simp
  rw [nxtVal, if_neg (by simp), hcb, if_neg (by omega), List.drop_succ_cons, List.drop_zero, e1, e3, hr, if_neg (by simp)]
theorem deep_nn (v : CV) : 0 ≤ deepV v ∧ 0 ≤ deepLs v.ls := by
  have h0 : ∀ b : List CV, 0 ≤ deepLs b := by
    intro b
    induction b with
    | nil => rw [deepLs]; omega
    | cons v l ih => rw [deepLs]; omega
  refine ⟨?_, h0 _⟩
  cases v with
  | mk k n s l =>
    rw [deepV]
    have := h0 l
    split <;> omega
def Reads (v : CV) : Prop := ∀ (st : List Lv) (s : List UInt8) (f : Nat), wfV v → bareV v = true → (st.length : Int) + deepV v ≤ 6 → (textV v).length ≤ 90000000 → (textV v).length + s.length < f →
  ∃ f', s.length < f' ∧ nxtVal f st (textV v ++ s) = nxtDone (nxtVal f') st v s
theorem text_pos (v : CV) : 0 < (textV v).length := by
  cases v with
  | mk k n s l =>
    rw [textV_mk, List.length_append]
    show 0 < 1 + _
    omega
theorem texts_len : ∀ l : List CV, l.length ≤ (textLs l).length
  | [] => by simp
  | v :: l => by
    have := texts_len l
    have := text_pos v
    rw [textLs, List.length_append, List.length_cons]
    omega
theorem nxt_list (st : List Lv) (s : List UInt8) : ∀ (l : List CV) (acc : List CV) (f : Nat), (∀ w ∈ l, Reads w) → wfLs l → bareLs l = true → (st.length : Int) + 1 + deepLs l ≤ 6 → (textLs l).length ≤ 90000000 → (textLs l).length + s.length < f →
    ∃ f', s.length < f' ∧ nxtShut (nxtVal f) (⟨(l.length : Int), acc⟩ :: st) (textLs l ++ s) = nxtDone (nxtVal f') st (.mk 3 0 [] (acc ++ l)) s
  | [], acc, f, hr, hw, hb, hd, ht, hf => by
    refine ⟨f, by rw [textLs] at hf; simpa using hf, ?_⟩
    rw [nxtShut, if_pos (show ((List.length ([] : List CV) : Nat) : Int) = 0 from rfl), textLs, List.nil_append, List.append_nil]
  | v :: l, acc, f, hr, hw, hb, hd, ht, hf => by
    rw [wfLs] at hw
    rw [bareLs, Bool.and_eq_true] at hb
    rw [deepLs] at hd
    rw [textLs, List.length_append] at ht hf
    obtain ⟨f1, h1, e1⟩ := hr v (by simp) (⟨((v :: l).length : Int), acc⟩ :: st) (textLs l ++ s) f hw.1 hb.1 (by rw [List.length_cons]; omega) (by omega) (by rw [List.length_append]; omega)
    rw [List.length_append] at h1
    obtain ⟨f2, h2, e2⟩ := nxt_list st s l (acc ++ [v]) f1 (fun w hw => hr w (by simp [hw])) hw.2 hb.2 (by omega) (by omega) h1
    refine ⟨f2, h2, ?_⟩
    rw [nxtShut, if_neg (by simp; omega), textLs, List.append_assoc, e1]
    have e3 : (((v :: l).length : Int) - 1) = (l.length : Int) := by simp
    rw [nxtShut] at e2
    rw [nxtDone]
    simp only [e3]
    rw [e2, List.append_assoc, List.singleton_append]
theorem reads (v : CV) : Reads v := by
  refine cv_all (p := Reads) (fun k n s l ih => ?_) v
  intro st r f hw hb hd ht hf
  rw [wfV] at hw
  obtain ⟨g, rfl⟩ : ∃ g, f = g + 1 := ⟨f - 1, by omega⟩
  rw [textV_mk] at ht hf ⊢
  rw [bareV] at hb
  by_cases h1 : k = 1
  · subst h1
    rw [if_pos rfl] at hb ht hf ⊢
    simp only [Bool.and_eq_true, decide_eq_true_eq, List.isEmpty_iff] at hb
    obtain ⟨rfl, rfl⟩ := hb
    rw [List.length_append] at hf
    have e : byteK 1 = [1] := rfl
    rw [e] at hf ⊢
    refine ⟨g, by simp at hf; omega, ?_⟩
    rw [List.singleton_append, List.cons_append, nxt_head hw.1 g st 1 r (by decide)]
    rfl
  · rw [if_neg h1] at hb ht hf ⊢
    by_cases h2 : k = 2
    · subst h2
      rw [if_pos rfl] at hb ht hf ⊢
      simp only [Bool.and_eq_true, decide_eq_true_eq, List.isEmpty_iff] at hb
      obtain ⟨rfl, rfl⟩ := hb
      rw [List.length_append, List.length_append] at ht hf
      have e : byteK 2 = [2] := rfl
      rw [e] at hf ⊢
      refine ⟨g, by simp at hf; omega, ?_⟩
      rw [List.singleton_append, List.cons_append, List.append_assoc, nxt_head ⟨by omega, by omega⟩ g st 2 (s ++ r) (by decide)]
      rw [if_neg (by decide), if_pos (by decide), if_neg (by simp; omega)]
      rw [Int.toNat_natCast, List.take_left, List.drop_left]
    · rw [if_neg h2] at hb ht hf ⊢
      by_cases h3 : k = 3
      · subst h3
        rw [if_pos rfl] at hb
        simp only [Bool.and_eq_true, decide_eq_true_eq] at hb
        obtain ⟨⟨rfl, rfl⟩, hb⟩ := hb
        rw [deepV, if_pos rfl] at hd
        rw [List.length_append, List.length_append] at ht hf
        have e : byteK 3 = [3] := rfl
        rw [e] at hf ⊢
        have hll := texts_len l
        have hdn := (deep_nn (.mk 3 0 [] l)).2
        have hdn : 0 ≤ deepLs l := hdn
        obtain ⟨f', h5, h6⟩ := nxt_list st r l [] g ih hw.2.2 hb (by omega) (by omega) (by simp at hf; omega)
        refine ⟨f', h5, ?_⟩
        rw [List.singleton_append, List.cons_append, List.append_assoc, nxt_head ⟨by omega, by omega⟩ g st 3 (textLs l ++ r) (by decide)]
        rw [if_neg (by decide), if_neg (by decide), if_neg (by omega), h6, List.nil_append]
      · rw [if_neg h3] at hb; cases hb
/-- What is written is read as it was. -/
theorem next_of {v : CV} (hw : wfV v) (hb : bareV v = true) (hd : deepV v ≤ 6) {s : List UInt8} (hl : (textV v).length + s.length ≤ 8192) : nxtTop (textV v ++ s) = ⟨v, s, 0⟩ := by
  unfold nxtTop
  rw [if_neg (by rw [List.length_append]; omega)]
  obtain ⟨f', h1, h2⟩ := reads v [] s ((textV v ++ s).length + 1) hw hb (by simp; exact hd) (by omega) (by rw [List.length_append]; exact Nat.lt_succ_self _)
  rw [h2, nxtDone]
end Sy
end Go.Proofs.Ythlggigjnpldcaa
