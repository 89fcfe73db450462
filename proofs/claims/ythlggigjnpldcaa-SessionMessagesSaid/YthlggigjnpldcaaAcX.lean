/- Chapter 19 (session): New, Tick, Lost, Take, Done. -/
import Derived.Test.YthlggigjnpldcaaAcW
namespace Go.Proofs.Ythlggigjnpldcaa
namespace Sy
open Go Go.RowKit
set_option maxRecDepth 100000
set_option linter.unusedSimpArgs false
set_option linter.unusedVariables false

def addS (a b : Int) : Int := min (a + b) 18446744073709551615
def add_s (L : Seal) : Ent1 := (77, fun xs => match xs with | [.int .u64 a, .int .u64 b] => some (L u64Ok a ∧ L u64Ok b, .int .u64 (L2 L addS a b)) | _ => none)
theorem add_good : Good Try.prog (add_s std) := by
  intro xs p r h hp
  dsimp only [add_s] at h ⊢
  split at h <;> cases h
  try simp only [L2, L3, std] at hp ⊢
  rename_i a b
  refine acalls_L (T := tt) (S := noS) (lo := noA) (lb := noA) 5 (fn := Try.f77) rfl rfl (by kernel_rfl) (by kernel_rfl) rfl tt_ok (noS_ok _) (by kernel_rfl) ?_
  obtain ⟨⟨h0, h1⟩, ⟨h2, h3⟩⟩ : u64Ok a ∧ u64Ok b := hp
  (intro L P1 Q1 hL hP hQ; cbv; subst hL; simp only [L2, L3, std, sat_need, sat_must, sat_ite, sat_done, sat_yes, sat_ex, sat_all, sat_sup, sat_and, sat_fail]; subst hQ)
  (simp only [sySet, reduceCtorEq, forall_const, Int.reduceToNat, Int.reduceAdd, Int.reduceSub, Int.cast_ofNat_Int, Int.toNat_natCast, Nat.le_eq, Nat.sub_eq, ne_eq, Decidable.not_not, implies_true, true_and, and_true, wadd, wsub, wmul, decide_eq_true_eq, decide_eq_false_iff_not, Nat.succ_eq_add_one, imp_false, not_false_eq_true, not_true_eq_false, false_imp_iff, true_imp_iff])
  unfold addS
  refine ⟨fun h => by omega, fun h => by omega⟩

/-- A session. -/
structure Ss where
  ep : Int
  ver : Int
  non : Int
  nxt : Int
  rep : List UInt8
  opn : Bool
  ba : Int
  ca : Int
  tr : Int
/-- An offer. -/
structure Of where
  v : Int
  n : Int
  b : List UInt8
def ssA (L : Seal) (x : Ss) : AV := .agg [.int .u64 (L Ss.ep x), .int .u64 (L Ss.ver x), .int .u64 (L Ss.non x), .int .u64 (L Ss.nxt x), .str (L Ss.rep x), .bool (L Ss.opn x), .int .u64 (L Ss.ba x), .int .u64 (L Ss.ca x), .int .i64 (L Ss.tr x)]
def ofA (L : Seal) (o : Of) : AV := .agg [.int .u64 (L Of.v o), .int .u64 (L Of.n o), .str (L Of.b o)]
def mkSs (L : Seal) (a b c d : Int) (r : List UInt8) (o : Bool) (e f g : Int) : Ss := L (L (L (L (L (L (L (L (L Ss.mk a) b) c) d) r) o) e) f) g
def mkOf (L : Seal) (v n : Int) (b : List UInt8) : Of := L (L (L Of.mk v) n) b
theorem ss_fit {x : Ss} {a b c d : Int} {r : List UInt8} {o : Bool} {e f g : Int} (h : x = ⟨a, b, c, d, r, o, e, f, g⟩) : fits1 (ssA std x) (.agg [.int .u64 a, .int .u64 b, .int .u64 c, .int .u64 d, .str r, .bool o, .int .u64 e, .int .u64 f, .int .i64 g]) := by
  subst h
  show fits1 (.agg [.int .u64 a, .int .u64 b, .int .u64 c, .int .u64 d, .str r, .bool o, .int .u64 e, .int .u64 f, .int .i64 g]) _
  simp only [fits1_aggi, fits1_aggs, fits1_aggb, fits1_agg0, and_self]
theorem ss_fit0 {x : Ss} {a b c d : Int} {r : List UInt8} {o : Bool} {e f g : Int} (h : x = ⟨a, b, c, d, r, o, e, f, g⟩) : fits (ssA std x) (.agg [.int .u64 a, .int .u64 b, .int .u64 c, .int .u64 d, .str r, .bool o, .int .u64 e, .int .u64 f, .int .i64 g]) := by
  subst h
  show fits (.agg [.int .u64 a, .int .u64 b, .int .u64 c, .int .u64 d, .str r, .bool o, .int .u64 e, .int .u64 f, .int .i64 g]) _
  simp only [fits_aggi, fits1_aggi, fits1_aggs, fits1_aggb, fits1_agg0, and_self]
theorem of_fit {x : Of} {v n : Int} {b : List UInt8} (h : x = ⟨v, n, b⟩) : fits1 (ofA std x) (.agg [.int .u64 v, .int .u64 n, .str b]) := by
  subst h
  show fits1 (.agg [.int .u64 v, .int .u64 n, .str b]) _
  simp only [fits1_aggi, fits1_aggs, fits1_agg0, and_self]
theorem rd1 (a : Int) : rdI (.lst 1 1 fun i x => .int .u64 (nthI [a] i)) = [a] := rfl
theorem rd2 (a b : Int) : rdI (.lst 1 2 fun i x => .int .u64 (nthI [a, b] i)) = [a, b] := rfl
theorem rd3 (a b c : Int) : rdI (.lst 1 3 fun i x => .int .u64 (nthI [a, b, c] i)) = [a, b, c] := rfl
theorem okl1 (n : Nat) (g : Nat → Int) : okI (.lst 1 n fun i x => .int .u64 (g i)) := ⟨rfl, fun i _ => ⟨_, rfl⟩⟩
theorem short_u {a : Int} (h : u64Ok a) : shortOk a := h
theorem msg_ok0 {a : Int} {l : List Int} (h : u64Ok a) (hl : l.length ≤ 10) (hs : ∀ x ∈ l, u64Ok x) : msgOk a [] l := ⟨h, Nat.zero_le _, by omega, hs⟩
theorem all1 {a : Int} (h : u64Ok a) : ∀ x ∈ [a], u64Ok x := fun x hx => by simp at hx; rw [hx]; exact h
theorem all2 {a b : Int} (h : u64Ok a) (h2 : u64Ok b) : ∀ x ∈ [a, b], u64Ok x := fun x hx => by
  simp at hx
  rcases hx with rfl | rfl
  · exact h
  · exact h2
theorem all3 {a b c : Int} (h : u64Ok a) (h2 : u64Ok b) (h3 : u64Ok c) : ∀ x ∈ [a, b, c], u64Ok x := fun x hx => by
  simp at hx
  rcases hx with rfl | rfl | rfl
  · exact h
  · exact h2
  · exact h3
theorem mod_ok (a : Int) : u64Ok (a % 18446744073709551616) := ⟨by omega, by omega⟩
def newS (ba ca tr v : Int) : Ss := ⟨0, v, 0, 0, [], false, ba, ca, tr⟩
def new_s (L : Seal) : Ent1 := (40, fun xs => match xs with | [.agg [.int .u64 b, .int .u64 c, .int .i64 t], .int .u64 v] => some (True, .agg [.int .u64 0, .int .u64 v, .int .u64 0, .int .u64 0, .str [], .bool false, .int .u64 b, .int .u64 c, .int .i64 t]) | _ => none)
theorem new_good : Good Try.prog (new_s std) := by
  intro xs p r h hp
  dsimp only [new_s] at h ⊢
  split at h <;> cases h
  try simp only [L2, L3, std] at hp ⊢
  refine acalls_L (T := tt) (S := noS) (lo := noA) (lb := noA) 5 (fn := Try.f40) rfl rfl (by kernel_rfl) (by kernel_rfl) rfl tt_ok (noS_ok _) (by kernel_rfl) ?_
  (intro L P1 Q1 hL hP hQ; cbv; subst hL; simp only [L2, L3, std, sat_need, sat_must, sat_ite, sat_done, sat_yes, sat_ex, sat_all, sat_sup, sat_and, sat_fail]; subst hQ)
  (simp only [sySet, reduceCtorEq, forall_const, Int.reduceToNat, Int.reduceAdd, Int.reduceSub, Int.cast_ofNat_Int, Int.toNat_natCast, Nat.le_eq, Nat.sub_eq, ne_eq, Decidable.not_not, implies_true, true_and, and_true, wadd, wsub, wmul, decide_eq_true_eq, decide_eq_false_iff_not, Nat.succ_eq_add_one, imp_false, not_false_eq_true, not_true_eq_false, false_imp_iff, true_imp_iff])
def subT (e v : Int) : List UInt8 := msgT 1 e [] [v]
def tickS (x : Ss) (now : Int) : Ss := if x.opn = true ∨ now < x.nxt then x else { x with opn := true, ep := (x.ep + 1) % 18446744073709551616, non := 0, rep := [] }
def tickT (x : Ss) (now : Int) : List UInt8 := if x.opn = true ∨ now < x.nxt then [] else subT ((x.ep + 1) % 18446744073709551616) x.ver
def tick_s (L : Seal) : Ent1 := (41, fun xs => match xs with
  | [.agg [.int .u64 a, .int .u64 b, .int .u64 c, .int .u64 d, .str r, .bool o, .int .u64 e, .int .u64 f, .int .i64 g], .int .u64 now] => some (L u64Ok b, .tup [ssA L (L2 L tickS (mkSs L a b c d r o e f g) now), .str (L2 L tickT (mkSs L a b c d r o e f g) now)])
  | _ => none)
theorem tick_good : Good Try.prog (tick_s std) := by
  intro xs p r h hp
  dsimp only [tick_s] at h ⊢
  split at h <;> cases h
  try simp only [L2, L3, std] at hp ⊢
  rename_i a b c d r o e f g now
  refine acalls_L (T := tt) (S := fun L => sumOf [msg_s L]) (lo := noA) (lb := noA) 5 (fn := Try.f41) rfl rfl (by kernel_rfl) (by kernel_rfl) rfl tt_ok (sumOf_ok ⟨msg_good, trivial⟩) (by kernel_rfl) ?_
  (intro L P1 Q1 hL hP hQ; cbv; subst hL; simp only [L2, L3, std, sat_need, sat_must, sat_ite, sat_done, sat_yes, sat_ex, sat_all, sat_sup, sat_and, sat_fail]; subst hQ)
  (simp only [sySet, reduceCtorEq, forall_const, Int.reduceToNat, Int.reduceAdd, Int.reduceSub, Int.cast_ofNat_Int, Int.toNat_natCast, Nat.le_eq, Nat.sub_eq, ne_eq, Decidable.not_not, implies_true, true_and, and_true, wadd, wsub, wmul, decide_eq_true_eq, decide_eq_false_iff_not, Nat.succ_eq_add_one, imp_false, not_false_eq_true, not_true_eq_false, false_imp_iff, true_imp_iff])
  have eX : mkSs std a b c d r o e f g = ⟨a, b, c, d, r, o, e, f, g⟩ := rfl
  rw [eX]
  refine ⟨fun h => ⟨ss_fit (if_pos (.inl h)), (if_pos (.inl h)).symm⟩, fun h => ⟨fun h1 => ⟨ss_fit (if_pos (.inr h1)), (if_pos (.inr h1)).symm⟩, fun h1 => ?_⟩⟩
  have hn : ¬ (o = true ∨ now < d) := by
    rintro (h2 | h2)
    · rw [h] at h2; cases h2
    · omega
  rw [rd1]
  exact ⟨⟨okl1 _ _, msg_ok0 (mod_ok _) (by simp) (all1 hp)⟩, ss_fit (if_neg hn), (if_neg hn).symm⟩
def lostS (x : Ss) (now : Int) : Ss := if x.opn = true then { x with opn := false, nxt := addS now (dlyZ x.ba x.ca x.tr), tr := nxtT x.tr } else x
def lost_s (L : Seal) : Ent1 := (44, fun xs => match xs with
  | [.agg [.int .u64 a, .int .u64 b, .int .u64 c, .int .u64 d, .str r, .bool o, .int .u64 e, .int .u64 f, .int .i64 g], .int .u64 now] => some (L u64Ok now ∧ L u64Ok e ∧ L u64Ok f ∧ L (fun t : Int => t ≤ 1000000) g, ssA L (L2 L lostS (mkSs L a b c d r o e f g) now))
  | _ => none)
theorem dly_ok {b c t : Int} (h1 : u64Ok c) : u64Ok (dlyZ b c t) := by
  obtain ⟨h1, h2⟩ := h1
  unfold dlyZ u64Ok
  split
  · omega
  · split
    · omega
    · have : 0 ≤ wshl .u64 b (max t 0) := by
        unfold wshl
        rw [w_u64]
        exact Int.emod_nonneg _ (by decide)
      omega
theorem lost_good : Good Try.prog (lost_s std) := by
  intro xs p r h hp
  dsimp only [lost_s] at h ⊢
  split at h <;> cases h
  try simp only [L2, L3, std] at hp ⊢
  rename_i a b c d r o e f g now
  refine acalls_L (T := tt) (S := fun L => sumOf [dly_s L, add_s L, wnext_s L]) (lo := noA) (lb := noA) 5 (fn := Try.f44) rfl rfl (by kernel_rfl) (by kernel_rfl) rfl tt_ok (sumOf_ok ⟨dly_good, add_good, wnext_good, trivial⟩) (by kernel_rfl) ?_
  obtain ⟨p1, p2, p3, p4⟩ : u64Ok now ∧ u64Ok e ∧ u64Ok f ∧ g ≤ 1000000 := hp
  intro L P' Q' hL hP hQ
  (cbv; try simp only [sat_need, sat_must, sat_ite, sat_done, sat_yes, sat_ex, sat_all, sat_sup, sat_and, sat_fail, true_and, and_true])
  refine ⟨fun h => ⟨?_, ⟨?_, ?_⟩, ?_, ?_⟩, fun h => ?_⟩
  · subst hL; exact p2
  · subst hL; exact p1
  · subst hL; exact dly_ok p3
  · subst hL; exact p4
  · subst hL; subst hQ; exact ss_fit0 (if_pos h)
  · subst hL; subst hQ; exact ss_fit0 (if_neg (by show ¬ o = true; rw [h]; decide))
/-- What comes of a message. -/
noncomputable def takE (x : Ss) (s : List UInt8) : Int :=
  if rsE s ≠ 0 then rsE s else if rsK s ≠ 2 then 10 else if x.opn = false ∨ rsP s ≠ x.ep ∨ nthI (rsI s) 1 < x.non ∨ (nthI (rsI s) 1 = x.non ∧ x.rep = []) then 18 else if nthI (rsI s) 1 = x.non then 11 else 0
noncomputable def takS (x : Ss) (s : List UInt8) : Ss := if takE x s = 0 then { x with non := nthI (rsI s) 1, rep := [], tr := 0 } else x
noncomputable def takO (x : Ss) (s : List UInt8) : Of := if takE x s = 0 then ⟨nthI (rsI s) 0, nthI (rsI s) 1, rsB s⟩ else ⟨0, 0, []⟩
noncomputable def takA (x : Ss) (s : List UInt8) : List UInt8 := if takE x s = 11 then x.rep else []
noncomputable def tak_s (L : Seal) : Ent1 := (42, fun xs => match xs with
  | [.agg [.int .u64 a, .int .u64 b, .int .u64 c, .int .u64 d, .str r, .bool o, .int .u64 e, .int .u64 f, .int .i64 g], .str s] => some (L2 L upto 900000 s, .tup [ssA L (L2 L takS (mkSs L a b c d r o e f g) s), ofA L (L2 L takO (mkSs L a b c d r o e f g) s), .str (L2 L takA (mkSs L a b c d r o e f g) s), .int .i64 (L2 L takE (mkSs L a b c d r o e f g) s)])
  | _ => none)
theorem rs_4 {s : List UInt8} (h : ¬ rsE s = 0) : rsE s = 4 := by
  unfold rsE at h ⊢
  split at h
  · exact absurd rfl h
  · rename_i hn
    exact if_neg hn
theorem rs_ok {s : List UInt8} (h : rsE s = 0) : rsOk s := by
  unfold rsE at h
  split at h
  · assumption
  · cases h
theorem rsI_len {s : List UInt8} (h : rsE s = 0) : (rsI s).length = rsM s := by
  rw [rsI, if_pos h, nnsV, List.length_map, List.length_take]
  have := (rs_ok h).2.2.2.2.2.2.1
  omega
theorem rs_len {s : List UInt8} (h : rsE s = 0) (h2 : rsK s = 2) : lenI (rsI s) = 2 := by
  show (rsI s).length = 2
  rw [rsI_len h, rsM, rsN]
  rw [rsK, if_pos h] at h2
  rw [h2]; rfl
theorem tak_good : Good Try.prog (tak_s std) := by
  intro xs p r h hp
  dsimp only [tak_s] at h ⊢
  split at h <;> cases h
  try simp only [L2, L3, std] at hp ⊢
  rename_i a b c d r o e f g s
  refine acalls_L (T := tt) (S := fun L => sumOf [rs_s L, wreset_s L]) (lo := noA) (lb := noA) 5 (fn := Try.f42) rfl rfl (by kernel_rfl) (by kernel_rfl) rfl tt_ok (sumOf_ok ⟨rs_good, wreset_good, trivial⟩) (by kernel_rfl) ?_
  (intro L P1 Q1 hL hP hQ; cbv; subst hL; simp only [L2, L3, std, sat_need, sat_must, sat_ite, sat_done, sat_yes, sat_ex, sat_all, sat_sup, sat_and, sat_fail]; subst hQ)
  (simp only [sySet, reduceCtorEq, forall_const, Int.reduceToNat, Int.reduceAdd, Int.reduceSub, Int.cast_ofNat_Int, Int.toNat_natCast, Nat.le_eq, Nat.sub_eq, ne_eq, Decidable.not_not, implies_true, true_and, and_true, wadd, wsub, wmul, decide_eq_true_eq, decide_eq_false_iff_not, Nat.succ_eq_add_one, imp_false, not_false_eq_true, not_true_eq_false, false_imp_iff, true_imp_iff])
  have eX : mkSs std a b c d r o e f g = ⟨a, b, c, d, r, o, e, f, g⟩ := rfl
  rw [eX]
  have no : ∀ z, takE ⟨a, b, c, d, r, o, e, f, g⟩ s = z → z ≠ 0 → z ≠ 11 → fits1 (ssA std (takS ⟨a, b, c, d, r, o, e, f, g⟩ s)) (.agg [.int .u64 a, .int .u64 b, .int .u64 c, .int .u64 d, .str r, .bool o, .int .u64 e, .int .u64 f, .int .i64 g]) ∧
      fits1 (ofA std (takO ⟨a, b, c, d, r, o, e, f, g⟩ s)) (.agg [.int .u64 0, .int .u64 0, .str []]) ∧ [] = takA ⟨a, b, c, d, r, o, e, f, g⟩ s ∧ z = takE ⟨a, b, c, d, r, o, e, f, g⟩ s := fun z h h1 h2 =>
    ⟨ss_fit (if_neg (by rw [h]; exact h1)), of_fit (if_neg (by rw [h]; exact h1)), (if_neg (by rw [h]; exact h2)).symm, h.symm⟩
  have el : takE ⟨a, b, c, d, r, o, e, f, g⟩ s = 11 → fits1 (ssA std (takS ⟨a, b, c, d, r, o, e, f, g⟩ s)) (.agg [.int .u64 a, .int .u64 b, .int .u64 c, .int .u64 d, .str r, .bool o, .int .u64 e, .int .u64 f, .int .i64 g]) ∧
      fits1 (ofA std (takO ⟨a, b, c, d, r, o, e, f, g⟩ s)) (.agg [.int .u64 0, .int .u64 0, .str []]) ∧ r = takA ⟨a, b, c, d, r, o, e, f, g⟩ s ∧ 11 = takE ⟨a, b, c, d, r, o, e, f, g⟩ s := fun h =>
    ⟨ss_fit (if_neg (by rw [h]; decide)), of_fit (if_neg (by rw [h]; decide)), (if_pos h).symm, h.symm⟩
  have yes : takE ⟨a, b, c, d, r, o, e, f, g⟩ s = 0 → fits1 (ssA std (takS ⟨a, b, c, d, r, o, e, f, g⟩ s)) (.agg [.int .u64 a, .int .u64 b, .int .u64 (nthI (rsI s) 1), .int .u64 d, .str [], .bool o, .int .u64 e, .int .u64 f, .int .i64 0]) ∧
      fits1 (ofA std (takO ⟨a, b, c, d, r, o, e, f, g⟩ s)) (.agg [.int .u64 (nthI (rsI s) 0), .int .u64 (nthI (rsI s) 1), .str (rsB s)]) ∧ [] = takA ⟨a, b, c, d, r, o, e, f, g⟩ s ∧ 0 = takE ⟨a, b, c, d, r, o, e, f, g⟩ s := fun h =>
    ⟨ss_fit (if_pos h), of_fit (if_pos h), (if_neg (by rw [h]; decide)).symm, h.symm⟩
  generalize hE : takE ⟨a, b, c, d, r, o, e, f, g⟩ s = E at no el yes ⊢
  unfold takE at hE
  simp only at hE
  refine ⟨hp, fun h1 => ?_, fun h1 => ?_⟩
  · rw [if_pos h1] at hE
    rw [hE]
    have h2 := rs_4 h1
    exact no E rfl (by omega) (by omega)
  rw [if_neg (by simpa using h1)] at hE
  refine ⟨fun h2 => ?_, fun h2 => ?_⟩
  · rw [if_pos h2] at hE
    exact no 10 hE.symm (by decide) (by decide)
  rw [if_neg (by simpa using h2)] at hE
  have hl := rs_len h1 h2
  refine ⟨fun h3 => ?_, fun h3 => ⟨fun h4 => ?_, fun h4 => ⟨by omega, fun h5 => ?_, fun h5 => ⟨by omega, fun h6 => ⟨fun h7 => ?_, fun h7 => ?_⟩, fun h6 => ?_⟩⟩⟩⟩
  · rw [if_pos (.inl h3)] at hE
    exact no 18 hE.symm (by decide) (by decide)
  · rw [if_pos (.inr (.inl h4))] at hE
    exact no 18 hE.symm (by decide) (by decide)
  · rw [if_pos (.inr (.inr (.inl h5)))] at hE
    exact no 18 hE.symm (by decide) (by decide)
  · rw [if_pos (.inr (.inr (.inr ⟨h6, h7⟩)))] at hE
    exact no 18 hE.symm (by decide) (by decide)
  · rw [if_neg (by rintro (x | x | x | x); · rw [h3] at x; cases x
                   · exact x h4
                   · omega
                   · exact h7 x.2), if_pos h6] at hE
    exact ⟨by omega, fun _ => el hE.symm, fun x => absurd h6 x⟩
  · rw [if_neg (by rintro (x | x | x | x); · rw [h3] at x; cases x
                   · exact x h4
                   · omega
                   · exact h6 x.1), if_neg h6] at hE
    exact ⟨by omega, fun x => absurd x h6, fun _ => ⟨by omega, by omega, by omega, yes hE.symm⟩⟩
def donN (x : Ss) (o : Of) : Prop := (o.v = 0 ∧ o.n = 0 ∧ o.b = []) ∨ o.n ≠ x.non ∨ x.rep ≠ [] ∨ x.non = 0
open Classical in
noncomputable def donS (x : Ss) (o : Of) (c : Int) : Ss :=
  if donN x o then x else if c = 0 then { x with ver := o.v, rep := msgT 3 x.ep [] [o.v, o.n] } else { x with rep := msgT 4 x.ep [] [x.ver, o.n, c % 18446744073709551616] }
open Classical in
noncomputable def donT (x : Ss) (o : Of) (c : Int) : List UInt8 := if donN x o then [] else (donS x o c).rep
noncomputable def don_s (L : Seal) : Ent1 := (43, fun xs => match xs with
  | [.agg [.int .u64 a, .int .u64 b, .int .u64 c, .int .u64 d, .str r, .bool o, .int .u64 e, .int .u64 f, .int .i64 g], .agg [.int .u64 v, .int .u64 n, .str t], .int .i64 z] =>
    some (L u64Ok a ∧ L u64Ok b ∧ L u64Ok v ∧ L u64Ok n, .tup [ssA L (L3 L donS (mkSs L a b c d r o e f g) (mkOf L v n t) z), .str (L3 L donT (mkSs L a b c d r o e f g) (mkOf L v n t) z)])
  | _ => none)
theorem don_good : Good Try.prog (don_s std) := by
  intro xs p r h hp
  dsimp only [don_s] at h ⊢
  split at h <;> cases h
  try simp only [L2, L3, std] at hp ⊢
  rename_i a b c d r o e f g v n t z
  refine acalls_L (T := tt) (S := fun L => sumOf [msg_s L]) (lo := noA) (lb := noA) 5 (fn := Try.f43) rfl rfl (by kernel_rfl) (by kernel_rfl) rfl tt_ok (sumOf_ok ⟨msg_good, trivial⟩) (by kernel_rfl) ?_
  obtain ⟨p1, p2, p3, p4⟩ : u64Ok a ∧ u64Ok b ∧ u64Ok v ∧ u64Ok n := hp
  (intro L P1 Q1 hL hP hQ; cbv; subst hL; simp only [L2, L3, std, sat_need, sat_must, sat_ite, sat_done, sat_yes, sat_ex, sat_all, sat_sup, sat_and, sat_fail]; subst hQ)
  (simp only [sySet, reduceCtorEq, forall_const, Int.reduceToNat, Int.reduceAdd, Int.reduceSub, Int.cast_ofNat_Int, Int.toNat_natCast, Nat.le_eq, Nat.sub_eq, ne_eq, Decidable.not_not, implies_true, true_and, and_true, wadd, wsub, wmul, decide_eq_true_eq, decide_eq_false_iff_not, Nat.succ_eq_add_one, imp_false, not_false_eq_true, not_true_eq_false, false_imp_iff, true_imp_iff])
  have eX : mkSs std a b c d r o e f g = ⟨a, b, c, d, r, o, e, f, g⟩ := rfl
  have eO : mkOf std v n t = ⟨v, n, t⟩ := rfl
  rw [eX, eO]
  have no : donN ⟨a, b, c, d, r, o, e, f, g⟩ ⟨v, n, t⟩ → fits1 (ssA std (donS ⟨a, b, c, d, r, o, e, f, g⟩ ⟨v, n, t⟩ z)) (.agg [.int .u64 a, .int .u64 b, .int .u64 c, .int .u64 d, .str r, .bool o, .int .u64 e, .int .u64 f, .int .i64 g]) ∧
      [] = donT ⟨a, b, c, d, r, o, e, f, g⟩ ⟨v, n, t⟩ z := fun h => ⟨ss_fit (if_pos h), (if_pos h).symm⟩
  refine ⟨fun h1 => no (.inl h1), fun h1 => ⟨fun h2 => no (.inr (.inl h2)), fun h2 => ⟨fun h3 => no (.inr (.inr (.inl h3))), fun h3 => ⟨fun h4 => no (.inr (.inr (.inr h4))), fun h4 => ?_⟩⟩⟩⟩
  have hn : ¬ donN ⟨a, b, c, d, r, o, e, f, g⟩ ⟨v, n, t⟩ := by
    rintro (x | x | x | x)
    · exact h1 x.1 x.2.1 x.2.2
    · exact x h2
    · exact x h3
    · exact h4 x
  refine ⟨fun h5 => ?_, fun h5 => ?_⟩
  · rw [rd2]
    have e1 : donS ⟨a, b, c, d, r, o, e, f, g⟩ ⟨v, n, t⟩ z = ⟨a, v, c, d, msgT 3 a [] [v, n], o, e, f, g⟩ := by rw [donS, if_neg hn, if_pos h5]
    exact ⟨⟨okl1 _ _, msg_ok0 p1 (by simp) (all2 p3 p4)⟩, ss_fit e1, by rw [donT, if_neg hn, e1]⟩
  · rw [rd3]
    have e1 : donS ⟨a, b, c, d, r, o, e, f, g⟩ ⟨v, n, t⟩ z = ⟨a, b, c, d, msgT 4 a [] [b, n, z % 18446744073709551616], o, e, f, g⟩ := by rw [donS, if_neg hn, if_neg h5]
    exact ⟨⟨okl1 _ _, msg_ok0 p1 (by simp) (all3 p2 p4 (mod_ok z))⟩, ss_fit e1, by rw [donT, if_neg hn, e1]⟩
end Sy
end Go.Proofs.Ythlggigjnpldcaa
