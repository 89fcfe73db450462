/- Chapter 6 (digest): mix, what a block makes of the words. -/
import Derived.Test.YthlggigjnpldcaaAgC
namespace Go.Proofs.Ythlggigjnpldcaa
namespace Sy
open Go Go.RowKit
set_option maxRecDepth 100000
set_option linter.unusedSimpArgs false
set_option linter.unusedVariables false

def wordAt (s : List UInt8) (n : Int) : Int := IntKind.u32.wrap (getZ (ssub s (wmul .i64 4 n) (wadd .i64 (wmul .i64 4 n) 4)))
def nextW (l : List Int) (n : Nat) : Int := wadd .u32 (wadd .u32 (wadd .u32 (nthI l (n - 16)) (rot5 (nthI l (n - 15), 7, 18, 3, true))) (nthI l (n - 7))) (rot5 (nthI l (n - 2), 17, 19, 10, true))
/-- A block's words, so many of them. -/
def wN (s : List UInt8) : Nat → List Int
  | 0 => []
  | n + 1 => wN s n ++ [if n < 16 then wordAt s n else nextW (wN s n) n]
def stepX (v : List Int) (k w : Int) : Int := wadd .u32 (wadd .u32 (wadd .u32 (wadd .u32 (nthI v 7) (rot5 (nthI v 4, 6, 11, 25, false))) (bor .u32 (band .u32 (nthI v 4) (nthI v 5)) (band .u32 (bxor .u32 4294967295 (nthI v 4)) (nthI v 6)))) k) w
def stepY (v : List Int) : Int := wadd .u32 (rot5 (nthI v 0, 2, 13, 22, false)) (bor .u32 (band .u32 (nthI v 0) (nthI v 1)) (band .u32 (nthI v 2) (bor .u32 (nthI v 0) (nthI v 1))))
def step8 (v : List Int) (k w : Int) : List Int :=
  [wadd .u32 (stepX v k w) (stepY v), nthI v 0, nthI v 1, nthI v 2, wadd .u32 (nthI v 3) (stepX v k w), nthI v 4, nthI v 5, nthI v 6]
/-- The rounds, so many of them. -/
def vN (w h : List Int) : Nat → List Int
  | 0 => h
  | n + 1 => step8 (vN w h n) (nthI keysL n) (nthI w n)
def vS (s : List UInt8) (h : List Int) (n : Nat) : List Int := vN (wN s 64) h n
def hN (h v : List Int) (n : Nat) : List Int := (List.range 8).map fun i => if i < n then wadd .u32 (nthI h i) (nthI v i) else nthI h i
def hS (s : List UInt8) (h : List Int) (n : Nat) : List Int := hN h (vS s h 64) n
def mixZ (h : List Int) (s : List UInt8) : List Int := hS s h 8

theorem wN_len (s : List UInt8) : ∀ n, (wN s n).length = n
  | 0 => rfl
  | n + 1 => by rw [wN, List.length_append, wN_len s n]; rfl
theorem nthI_app {l : List Int} {v : Int} (i : Nat) : nthI (l ++ [v]) i = if i = l.length then v else nthI l i := by
  rw [nthI, nthI, List.getD_eq_getElem?_getD, List.getD_eq_getElem?_getD]
  by_cases h : i < l.length
  · rw [List.getElem?_append_left h, if_neg (by omega)]
  · rw [List.getElem?_append_right (by omega)]
    by_cases h2 : i = l.length
    · rw [if_pos h2, h2, Nat.sub_self]; rfl
    · rw [if_neg h2, List.getElem?_eq_none (by simp; omega), List.getElem?_eq_none (by omega)]
theorem app_row {l : List Int} {n : Nat} (v : Int) (hl : l.length = n) (i : Nat) : over std n 0 1 [.int .u32 v] (fun i _ => .int .u32 (nthI l i)) i 0 = .int .u32 (nthI (l ++ [v]) i) := by
  rw [over_get, if_pos ⟨Nat.le_refl _, by omega⟩, nthI_app, hl]
  by_cases hi2 : i = n
  · rw [if_pos hi2, hi2, beq_same]; rfl
  · rw [if_neg hi2, beq_no hi2]; rfl
theorem wN_lo {s : List UInt8} {n n' : Nat} (h : n' = n + 1) (h2 : n < 16) : wN s n' = wN s n ++ [wordAt s n] := by
  subst h; rw [wN, if_pos h2]
theorem wN_hi {s : List UInt8} {n n' : Nat} (h : n' = n + 1) (h2 : ¬ n < 16) : wN s n' = wN s n ++ [nextW (wN s n) n] := by
  subst h; rw [wN, if_neg h2]
def mixA (L : Seal) (h : List Int) (s : List UInt8) : Nat → St → Option Ann := fun id st => match id with
  | 0 => some ⟨Nat, fun n => [(17, .int .i64 (L natI n))], fun n => [(7, .row 51 1 64 (fun i _ => .int .u32 (L2 L nthI (L2 L wN s n) i)))], [1, 2, 3, 6, 7], [3, 6], fun n => L (fun n : Nat => n ≤ 16) n, fun n => L (fun n : Nat => 16 - n) n⟩
  | 2 => some ⟨Nat, fun n => [(11, .int .i64 (L natI n))], fun n => [(7, .row 51 1 64 (fun i _ => .int .u32 (L2 L nthI (L2 L wN s n) i)))], [1, 2, 3, 6, 7], [3, 6], fun n => L (fun n : Nat => 16 ≤ n ∧ n ≤ 64) n, fun n => L (fun n : Nat => 64 - n) n⟩
  | 4 => some ⟨Nat, fun n => [(64, .int .i64 (L natI n))], fun n => [(12, .row 130 1 8 (fun i _ => .int .u32 (L2 L nthI (L3 L vS s h n) i)))], [1, 2, 3, 6, 7, 12], [3, 6, 7], fun n => L (fun n : Nat => n ≤ 64) n, fun n => L (fun n : Nat => 64 - n) n⟩
  | 6 => some ⟨Nat, fun n => [(127, .int .i64 (L natI n))], fun n => [(3, .row 130 1 8 (fun i _ => .int .u32 (L2 L nthI (L3 L hS s h n) i)))], [3, 6, 12], [6, 12], fun n => L (fun n : Nat => n ≤ 8) n, fun n => L (fun n : Nat => 8 - n) n⟩
  | _ => none
def kOk64 (n : Nat) (g : Nat → AV) : Prop := n = 64 ∧ ∀ j, j < 64 → g j = .int .u32 (nthI keysL j)
def mix2 (x : List Int × List UInt8) : List Int := mixZ x.1 x.2
def w8L (L : Seal) (l : List Int) : AV := .agg [.int .u32 (L2 L nthI l 0), .int .u32 (L2 L nthI l 1), .int .u32 (L2 L nthI l 2), .int .u32 (L2 L nthI l 3), .int .u32 (L2 L nthI l 4), .int .u32 (L2 L nthI l 5), .int .u32 (L2 L nthI l 6), .int .u32 (L2 L nthI l 7)]
def mix_s (L : Seal) : Ent1 := (65, fun xs => match xs with
  | [.agg [.int .u32 a0, .int .u32 a1, .int .u32 a2, .int .u32 a3, .int .u32 a4, .int .u32 a5, .int .u32 a6, .int .u32 a7], .iptr n g, .str s] => some (L2 L kOk64 n g ∧ L (fun s : List UInt8 => s.length = 64) s, w8L L (L mix2 ([a0, a1, a2, a3, a4, a5, a6, a7], s)))
  | _ => none)
theorem rlD_2 {h : Array Obj} {D : Nat → Prop} {μ : Mu} {a x y : AV} {r : List AV} {vs : Array Value} (e : ∀ v, R h D μ x v → R h D μ y v) (hr : RL h D μ (a :: x :: r) vs) : RL h D μ (a :: y :: r) vs := by
  refine ⟨by rw [← hr.1]; rfl, fun i z v hz hv => ?_⟩
  match i, hz with
  | 0, hz => exact hr.2 0 z v hz hv
  | 1, hz => cases hz; exact e v (hr.2 1 x v rfl hv)
  | i + 2, hz => exact hr.2 (i + 2) z v hz hv
theorem ac_argsD {P : Program} {f : FuncId} {xs ys : List AV} {r : AV} (h : ∀ h D vs, RL h D noMu xs vs → RL h D noMu ys vs) (ha : ACalls P f ys r) : ACalls P f xs r := fun D w vs hD hx => ha D w vs hD (h _ _ _ hx)
theorem iptr_same {h : Array Obj} {D : Nat → Prop} {μ : Mu} {n : Nat} {g g' : Nat → AV} {v : Value} (r : R h D μ (.iptr n g) v) (e : ∀ j, j < n → g j = g' j) : R h D μ (.iptr n g') v := by
  cases r with
  | iptr _ _ b o vs hD hv h1 hr => exact .iptr n g' b o vs hD hv h1 (fun j hj => by rw [← e j hj]; exact hr j hj)
theorem natI_up {n n' : Nat} (h : n' = n + 1) (h2 : n < 1000) : wadd .i64 (natI n) 1 = natI n' := by
  subst h; unfold natI; rw [wadd, w_i64]; omega
theorem natI_dn {n k : Nat} {c : Int} (hc : c = (k : Int)) (h : k ≤ n) (h2 : n < 1000) : (wsub .i64 (natI n) c).toNat = n - k := by
  subst hc; unfold natI; rw [wsub, w_i64]; omega
theorem lt_of_ilt {n k : Nat} (h : ilt (natI n) (natI k) = true) : n < k := by
  have := of_decide_eq_true h
  unfold natI at this; omega
theorem ge_of_ilt {n k : Nat} (h : ilt (natI n) (natI k) = false) : ¬ n < k := by
  have := of_decide_eq_false h
  unfold natI at this; omega
theorem inR_nat {n k : Nat} (h : n < k) : inR (natI n) (natI k) = true := by rw [inR_t]; exact ⟨Int.natCast_nonneg _, by unfold natI; omega⟩
theorem four_n {n : Nat} (h : n < 1000) : wmul .i64 4 (natI n) = ((4 * n : Nat) : Int) ∧ wadd .i64 (wmul .i64 4 (natI n)) 4 = ((4 * n + 4 : Nat) : Int) := by
  have e : wmul .i64 4 (natI n) = ((4 * n : Nat) : Int) := by rw [wmul, w_i64, natI]; omega
  rw [e]
  refine ⟨rfl, ?_⟩
  rw [wadd, w_i64]; omega
theorem w_in {s : List UInt8} {n : Nat} (h : n < 16) (hs : s.length = 64) : inS (wmul .i64 4 (natI n)) (wadd .i64 (wmul .i64 4 (natI n)) 4) (slen s) = true := by
  obtain ⟨e1, e2⟩ := four_n (n := n) (by omega)
  rw [e2, e1, slen, hs, inS_t]
  exact ⟨by omega, by omega, by omega⟩
theorem w_get {s : List UInt8} {n : Nat} (h : n < 16) (hs : s.length = 64) : getOk (ssub s (wmul .i64 4 (natI n)) (wadd .i64 (wmul .i64 4 (natI n)) 4)) := by
  obtain ⟨e1, e2⟩ := four_n (n := n) (by omega)
  rw [e2, e1, ssub, getOk, List.length_drop, List.length_take, hs, Int.toNat_natCast, Int.toNat_natCast]
  omega
theorem inR_sub {n k : Nat} {c : Int} (hc : c = (k : Int)) (h : k ≤ n) (h2 : n < 64) : inR (wsub .i64 (natI n) c) (natI 64) = true := by
  subst hc
  have e : wsub .i64 (natI n) (k : Int) = natI (n - k) := by unfold natI; rw [wsub, w_i64]; omega
  rw [e]
  exact inR_nat (by omega)
theorem row_8 {a0 a1 a2 a3 a4 a5 a6 a7 : Int} {i : Nat} {s : List UInt8} (hi : i < 8) : AV.int .u32 (nthI [nthI [a0, a1, a2, a3, a4, a5, a6, a7] 0, nthI [a0, a1, a2, a3, a4, a5, a6, a7] 1, nthI [a0, a1, a2, a3, a4, a5, a6, a7] 2, nthI [a0, a1, a2, a3, a4, a5, a6, a7] 3, nthI [a0, a1, a2, a3, a4, a5, a6, a7] 4, nthI [a0, a1, a2, a3, a4, a5, a6, a7] 5, nthI [a0, a1, a2, a3, a4, a5, a6, a7] 6, nthI [a0, a1, a2, a3, a4, a5, a6, a7] 7] i) = .int .u32 (nthI (vS s [a0, a1, a2, a3, a4, a5, a6, a7] 0) i) := rfl
theorem step_row {v : List Int} {k w : Int} {i : Nat} (hi : i < 8) : over std 0 0 1 [.int .u32 (wadd .u32 (stepX v k w) (stepY v))] (over std 4 0 1 [.int .u32 (wadd .u32 (nthI v 3) (stepX v k w))] (fun i _ => sel1 std (segCp 1 7 i) (.int .u32 (nthI v (0 + (i - 1)))) (.int .u32 (nthI v i)))) i 0 = .int .u32 (nthI (step8 v k w) i) := by
  unfold step8
  generalize stepX v k w = x
  generalize stepY v = y
  match i, hi with
  | 0, _ => rfl
  | 1, _ => rfl
  | 2, _ => rfl
  | 3, _ => rfl
  | 4, _ => rfl
  | 5, _ => rfl
  | 6, _ => rfl
  | 7, _ => rfl
theorem hN_at {h v : List Int} {n i : Nat} (hi : i < 8) : nthI (hN h v n) i = if i < n then wadd .u32 (nthI h i) (nthI v i) else nthI h i := by
  rw [hN, nthI, List.getD_eq_getElem?_getD, List.getElem?_map, List.getElem?_range hi]; rfl
theorem hN_set {h v : List Int} {n n' i : Nat} (hn : n' = n + 1) (h8 : n < 8) (hi : i < 8) : over std n 0 1 [.int .u32 (wadd .u32 (nthI (hN h v n) n) (nthI v n))] (fun i _ => .int .u32 (nthI (hN h v n) i)) i 0 = .int .u32 (nthI (hN h v n') i) := by
  subst hn
  rw [over_get, if_pos ⟨Nat.le_refl _, by omega⟩, hN_at hi, hN_at h8, hN_at hi, if_neg (Nat.lt_irrefl n)]
  by_cases hi2 : i = n
  · rw [hi2, beq_same, if_neg (Nat.lt_irrefl n), if_pos (Nat.lt_succ_self n)]; rfl
  · rw [beq_no hi2]
    by_cases hlt : i < n
    · rw [if_pos hlt, if_pos (by omega)]; rfl
    · rw [if_neg hlt, if_neg (by omega)]; rfl
theorem hN_0 {h v : List Int} {n i : Nat} (hn : n = 0) (hi : i < 8) : AV.int .u32 (nthI h i) = .int .u32 (nthI (hN h v n) i) := by
  rw [hN_at hi, hn, if_neg (Nat.not_lt_zero i)]
theorem fits_8 (m : List Int) : fits (w8L std m) (.agg [.int .u32 (nthI [nthI m 0, nthI m 1, nthI m 2, nthI m 3, nthI m 4, nthI m 5, nthI m 6, nthI m 7] 0), .int .u32 (nthI [nthI m 0, nthI m 1, nthI m 2, nthI m 3, nthI m 4, nthI m 5, nthI m 6, nthI m 7] 1),
    .int .u32 (nthI [nthI m 0, nthI m 1, nthI m 2, nthI m 3, nthI m 4, nthI m 5, nthI m 6, nthI m 7] 2), .int .u32 (nthI [nthI m 0, nthI m 1, nthI m 2, nthI m 3, nthI m 4, nthI m 5, nthI m 6, nthI m 7] 3), .int .u32 (nthI [nthI m 0, nthI m 1, nthI m 2, nthI m 3, nthI m 4, nthI m 5, nthI m 6, nthI m 7] 4),
    .int .u32 (nthI [nthI m 0, nthI m 1, nthI m 2, nthI m 3, nthI m 4, nthI m 5, nthI m 6, nthI m 7] 5), .int .u32 (nthI [nthI m 0, nthI m 1, nthI m 2, nthI m 3, nthI m 4, nthI m 5, nthI m 6, nthI m 7] 6), .int .u32 (nthI [nthI m 0, nthI m 1, nthI m 2, nthI m 3, nthI m 4, nthI m 5, nthI m 6, nthI m 7] 7)]) := by
  unfold w8L
  simp only [sySet, L2, std]
  exact ⟨rfl, rfl, rfl, rfl, rfl, rfl, rfl, rfl, trivial⟩
theorem mix_good : Good Try.prog (mix_s std) := by
  intro xs p r h hp
  dsimp only [mix_s] at h ⊢
  split at h <;> cases h
  try simp only [L2, L3, std] at hp ⊢
  rename_i a0 a1 a2 a3 a4 a5 a6 a7 n g s
  obtain ⟨⟨hn, hg⟩, hs⟩ : kOk64 n g ∧ s.length = 64 := hp
  subst hn
  obtain ⟨kf, hkf⟩ : ∃ kf : Nat → Int, kf = nthI keysL := ⟨_, rfl⟩
  obtain ⟨hl, hhl⟩ : ∃ l : List Int, l = [a0, a1, a2, a3, a4, a5, a6, a7] := ⟨_, rfl⟩
  rw [← hkf] at hg
  refine ac_argsD (fun h D vs hr => rlD_2 (fun v r => iptr_same r hg) hr) ?_
  rw [← hhl]
  clear hg g
  refine acalls_L (T := tt) (S := fun L => sumOf [get_s L, rot_s L]) (lo := fun L => mixA L hl s) (lb := noA) 5 (fn := Try.f65) rfl rfl (by kernel_rfl) (by kernel_rfl) rfl tt_ok (sumOf_ok ⟨get_good, rot_good, trivial⟩) (by kernel_rfl) ?_
  obtain ⟨n0, hn0⟩ : ∃ n : Nat, n = 0 := ⟨_, rfl⟩
  obtain ⟨n1, hn1⟩ : ∃ n : Nat, n = 16 := ⟨_, rfl⟩
  intro L P' Q' hL hP hQ
  (cbv; try simp only [sat_need, sat_must, sat_ite, sat_done, sat_yes, sat_ex, sat_all, sat_sup, sat_and, sat_fail, true_and, and_true])
  refine ⟨⟨n0, ?_⟩, fun n hn => ?_⟩
  · (cbv; try simp only [sat_need, sat_must, sat_ite, sat_done, sat_yes, sat_ex, sat_all, sat_sup, sat_and, sat_fail, true_and, and_true])
    subst hL; subst hQ
    refine ⟨fun _ _ _ _ => trivial, fun _ _ _ _ => trivial, fun i j hi hj => ?_, fun _ _ => trivial, ?_, ?_⟩
    · have : j = 0 := by omega
      subst this; subst hn0; rfl
    · subst hn0; rfl
    · subst hn0; exact Nat.zero_le _
  obtain ⟨n', hn'⟩ : ∃ n' : Nat, n' = n + 1 := ⟨_, rfl⟩
  (cbv; try simp only [sat_need, sat_must, sat_ite, sat_done, sat_yes, sat_ex, sat_all, sat_sup, sat_and, sat_fail, true_and, and_true])
  refine ⟨fun h1 => ⟨?_, ?_, ?_, n', ?_⟩, fun h1 => ⟨⟨n1, ?_⟩, fun m hm => ?_⟩⟩
  · subst hL
    exact w_in (lt_of_ilt h1) hs
  · subst hL
    exact w_get (lt_of_ilt h1) hs
  · subst hL
    have h16 : n < 16 := lt_of_ilt h1
    exact inR_nat (by omega)
  · (cbv; try simp only [sat_need, sat_must, sat_ite, sat_done, sat_yes, sat_ex, sat_all, sat_sup, sat_and, sat_fail, true_and, and_true])
    subst hL; subst hQ
    have h16 : n < 16 := lt_of_ilt h1
    refine ⟨fun _ _ _ _ => trivial, fun _ _ _ _ => trivial, fun i j hi hj => ?_, fun _ _ => trivial, ?_, ?_, ?_⟩
    · have : j = 0 := by omega
      subst this
      rw [show L2 std wN s n' = wN s n ++ [wordAt s n] from wN_lo hn' h16]
      exact app_row _ (wN_len s n) i
    · exact natI_up hn' (by omega)
    · show n' ≤ 16
      omega
    · show 16 - n' + 1 ≤ 16 - n
      omega
  · (cbv; try simp only [sat_need, sat_must, sat_ite, sat_done, sat_yes, sat_ex, sat_all, sat_sup, sat_and, sat_fail, true_and, and_true])
    subst hL; subst hQ
    have h16 : n = n1 := by
      have hn : n ≤ 16 := hn
      have h2 : ¬ n < 16 := ge_of_ilt h1
      omega
    subst h16
    refine ⟨fun _ _ _ _ => trivial, fun _ _ _ _ => trivial, fun _ _ _ _ => rfl, fun _ _ => trivial, ?_, ?_⟩
    · subst hn1; rfl
    · subst hn1; exact ⟨Nat.le_refl _, by decide⟩
  clear h1 hn hn' n' hn0 n0
  obtain ⟨m', hm'⟩ : ∃ m' : Nat, m' = m + 1 := ⟨_, rfl⟩
  obtain ⟨k0, hk0⟩ : ∃ k : Nat, k = 0 := ⟨_, rfl⟩
  (cbv; try simp only [sat_need, sat_must, sat_ite, sat_done, sat_yes, sat_ex, sat_all, sat_sup, sat_and, sat_fail, true_and, and_true])
  refine ⟨fun h1 => ⟨?_, ?_, ?_, ?_, ?_, ?_, ?_, m', ?_⟩, fun h1 => ⟨⟨k0, ?_⟩, fun k hk => ?_⟩⟩
  · subst hL; exact inR_sub (k := 16) rfl (Nat.le_trans (by decide) hm.1) (lt_of_ilt h1)
  · subst hL; exact inR_sub (k := 15) rfl (Nat.le_trans (by decide) hm.1) (lt_of_ilt h1)
  · subst hL; show (0 : Int) ≤ 3; decide
  · subst hL; exact inR_sub (k := 7) rfl (Nat.le_trans (by decide) hm.1) (lt_of_ilt h1)
  · subst hL; exact inR_sub (k := 2) rfl (Nat.le_trans (by decide) hm.1) (lt_of_ilt h1)
  · subst hL; show (0 : Int) ≤ 10; decide
  · subst hL; exact inR_nat (lt_of_ilt h1)
  · (cbv; try simp only [sat_need, sat_must, sat_ite, sat_done, sat_yes, sat_ex, sat_all, sat_sup, sat_and, sat_fail, true_and, and_true])
    subst hL; subst hQ
    have h64 : m < 64 := lt_of_ilt h1
    have h16 : 16 ≤ m := hm.1
    refine ⟨fun _ _ _ _ => trivial, fun _ _ _ _ => trivial, fun i j hi hj => ?_, fun _ _ => trivial, ?_, ?_, ?_⟩
    · have : j = 0 := by omega
      subst this
      rw [show L2 std wN s m' = wN s m ++ [nextW (wN s m) m] from wN_hi hm' (by omega)]
      rw [nextW, ← natI_dn (n := m) (k := 16) (c := 16) rfl h16 (by omega), ← natI_dn (n := m) (k := 15) (c := 15) rfl (by omega) (by omega), ← natI_dn (n := m) (k := 7) (c := 7) rfl (by omega) (by omega), ← natI_dn (n := m) (k := 2) (c := 2) rfl (by omega) (by omega)]
      exact app_row _ (wN_len s m) i
    · exact natI_up hm' (by omega)
    · exact ⟨by omega, by omega⟩
    · show 64 - m' + 1 ≤ 64 - m
      omega
  · (cbv; try simp only [sat_need, sat_must, sat_ite, sat_done, sat_yes, sat_ex, sat_all, sat_sup, sat_and, sat_fail, true_and, and_true])
    subst hL; subst hQ
    refine ⟨fun _ _ _ _ => trivial, fun _ _ _ _ => trivial, fun _ _ _ _ => trivial, fun i j hi hj => ?_, fun _ _ => trivial, ?_, ?_⟩
    · subst hk0; subst hhl
      exact row_8 (s := s) hi
    · subst hk0; rfl
    · subst hk0; exact Nat.zero_le _
  have hm64 : m = 64 := by
    subst hL
    have : ¬ m < 64 := ge_of_ilt h1
    have : m ≤ 64 := hm.2
    omega
  subst hm64
  clear h1 hm hm' m' hk0 k0
  obtain ⟨k', hk'⟩ : ∃ k' : Nat, k' = k + 1 := ⟨_, rfl⟩
  obtain ⟨q0, hq0⟩ : ∃ q : Nat, q = 0 := ⟨_, rfl⟩
  (cbv; try simp only [sat_need, sat_must, sat_ite, sat_done, sat_yes, sat_ex, sat_all, sat_sup, sat_and, sat_fail, true_and, and_true])
  refine ⟨fun h1 => ⟨?_, ?_, ?_, ?_, ?_, ?_, ?_, ?_, ?_, ?_, ?_, ?_, ?_, ?_, ?_, ?_, ?_, ?_, ?_, ?_, ?_, ?_, k', ?_⟩, fun h1 => ⟨⟨q0, ?_⟩, fun q hq => ?_⟩⟩
  · subst hL; rfl
  · subst hL; rfl
  · subst hL; show (0 : Int) ≤ 25; decide
  · subst hL; rfl
  · subst hL; rfl
  · subst hL; rfl
  · subst hL; rfl
  · subst hL; exact inR_nat (lt_of_ilt h1)
  · subst hL; exact inR_nat (lt_of_ilt h1)
  · subst hL; rfl
  · subst hL; show (0 : Int) ≤ 22; decide
  · subst hL; rfl
  · subst hL; rfl
  · subst hL; rfl
  · subst hL; rfl
  · subst hL; rfl
  · subst hL; rfl
  · subst hL; rfl
  · subst hL; rfl
  · subst hL; rfl
  · subst hL; rfl
  · subst hL; rfl
  · (cbv; try simp only [sat_need, sat_must, sat_ite, sat_done, sat_yes, sat_ex, sat_all, sat_sup, sat_and, sat_fail, true_and, and_true])
    subst hL; subst hQ
    have h64 : k < 64 := lt_of_ilt h1
    refine ⟨fun _ _ _ _ => trivial, fun _ _ _ _ => trivial, fun _ _ _ _ => trivial, fun i j hi hj => ?_, fun _ _ => trivial, ?_, ?_, ?_⟩
    · have : j = 0 := by omega
      subst this
      have e : vS s hl k' = step8 (vS s hl k) (kf k) (nthI (wN s 64) k) := by subst hk'; subst hkf; rfl
      have ek : (natI k).toNat = k := Int.toNat_natCast k
      simp only [L2, L3, std, ek, e]
      clear e
      generalize vS s hl k = v
      generalize wN s 64 = w
      exact step_row hi
    · exact natI_up hk' (by omega)
    · show k' ≤ 64
      omega
    · show 64 - k' + 1 ≤ 64 - k
      omega
  · (cbv; try simp only [sat_need, sat_must, sat_ite, sat_done, sat_yes, sat_ex, sat_all, sat_sup, sat_and, sat_fail, true_and, and_true])
    subst hL; subst hQ
    have hk64 : k = 64 := by
      have : ¬ k < 64 := ge_of_ilt h1
      have : k ≤ 64 := hk
      omega
    subst hk64
    refine ⟨fun _ _ _ _ => trivial, fun _ _ _ _ => trivial, fun i j hi hj => ?_, ?_, ?_⟩
    · exact hhl ▸ hN_0 hq0 hi
    · subst hq0; rfl
    · subst hq0; exact Nat.zero_le _
  have hk64 : k = 64 := by
    subst hL
    have : ¬ k < 64 := ge_of_ilt h1
    have : k ≤ 64 := hk
    omega
  subst hk64
  clear h1 hk hk' k' hq0 q0
  obtain ⟨q', hq'⟩ : ∃ q' : Nat, q' = q + 1 := ⟨_, rfl⟩
  (cbv; try simp only [sat_need, sat_must, sat_ite, sat_done, sat_yes, sat_ex, sat_all, sat_sup, sat_and, sat_fail, true_and, and_true])
  refine ⟨fun h1 => ⟨?_, ?_, ?_, q', ?_⟩, fun h1 => ?_⟩
  · subst hL; exact inR_nat (lt_of_ilt h1)
  · subst hL; exact inR_nat (lt_of_ilt h1)
  · subst hL; exact inR_nat (lt_of_ilt h1)
  · (cbv; try simp only [sat_need, sat_must, sat_ite, sat_done, sat_yes, sat_ex, sat_all, sat_sup, sat_and, sat_fail, true_and, and_true])
    subst hL; subst hQ
    have h8 : q < 8 := lt_of_ilt h1
    refine ⟨fun _ _ _ _ => trivial, fun _ _ _ _ => trivial, fun i j hi hj => ?_, ?_, ?_, ?_⟩
    · have : j = 0 := by omega
      subst this
      have ek : (natI q).toNat = q := Int.toNat_natCast q
      simp only [L2, L3, std, ek, hS]
      exact hN_set hq' h8 hi
    · exact natI_up hq' (by omega)
    · show q' ≤ 8
      omega
    · show 8 - q' + 1 ≤ 8 - q
      omega
  · subst hL; subst hQ
    have hq8 : q = 8 := by
      have : ¬ q < 8 := ge_of_ilt h1
      have : q ≤ 8 := hq
      omega
    subst hq8
    rw [show mix2 (hl, s) = hS s hl 8 from rfl]
    simp only [std]
    generalize hS s hl 8 = m
    exact fits_8 m
end Sy
end Go.Proofs.Ythlggigjnpldcaa
