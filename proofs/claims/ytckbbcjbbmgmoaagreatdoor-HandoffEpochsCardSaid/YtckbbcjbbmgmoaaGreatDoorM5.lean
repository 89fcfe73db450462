/-Chapter 26 (handoff): Giver, Taker: Done, Messages, Give, the Taker's Take. Chapter 26 (handoff): the places that are not one: IndexFunc, DeleteFunc; the Giver's Take. Chapter 26 (handoff): the document's rows of places: Has, Put, Drop, Give, places, same. Chapter 26 (handoff): the document's Drop, Give; the law's places, same. The law FrameBytes: any frame as bytes, and back. Chapter 25, 26: the laws' awake runs. Chapter 26 (handoff): the law HandoffEpochs. From a row's listed variables to what the executor asks of them (GOk).-/
import Derived.Test.YtckbbcjbbmgmoaaGreatDoorM4
import Derived.Test.YtckbbcjbbmgmoaaGreatDoorM1
import Derived.ProofKit
import Derived.OpenShut
import Derived.LaidMore
import Derived.Lay
import Derived.Stop.Joined
import Derived.Lib.LaidTab
namespace Go.Proofs.YtckbbcjbbmgmoaaGreatDoor
namespace Sy
open Go Go.RowKit
set_option maxRecDepth 100000
set_option linter.unusedSimpArgs false
set_option linter.unusedVariables false
/-- A Giver, a Taker. -/
structure Gv where
  e : Int
  l : List Pl
  deriving DecidableEq
def gvC (L : Seal) (x : Gv) : Nat → AV
  | 0 => .int .u64 (L Gv.e x)
  | _ => lstPl L (L Gv.l x)
def gvV : Vw Gv := ⟨2, gvC, fun c => ⟨(c 0).toI, rdW plV (c 1)⟩, fun c => isI .u64 (c 0) ∧ okW plV (c 1), ⟨0, []⟩⟩
def okGGv (x : AV) : Prop := okG gvV x
def rdGGv (x : AV) : Gv := rdG gvV x
theorem gvV_ok : VwOk gvV := by
  refine ⟨fun c hc j hj h D μ v r => ?_, fun c x hx => ?_⟩
  · obtain ⟨h0, h1⟩ := hc
    match j, hj with
    | 0, _ => exact isI_R h0 r
    | 1, _ => exact okW_R plV_ok h1 r
  · have e0 := hx 0 (by decide)
    have e1 : c 1 = lstW std plV x.l := hx 1 (by decide)
    obtain ⟨k1, k2⟩ := rdW_lst plV_ok x.l
    rw [← e1] at k1 k2
    refine ⟨⟨⟨_, e0⟩, k1⟩, ?_⟩
    show Gv.mk ((c 0).toI) (rdW plV (c 1)) = x
    rw [k2, e0]; rfl
def gvA (L : Seal) (g : Gv) : AV := .agg [.int .u64 (L Gv.e g), lstPl L (L Gv.l g)]
theorem rdgGv (g : Gv) : rdGGv (gvA std g) = g := (gK gvV_ok g _ rfl).2
theorem okgGv (g : Gv) : okGGv (gvA std g) := (gK gvV_ok g _ rfl).1
def gvOk (g : Gv) : Prop := (0 ≤ g.e ∧ g.e < 18446744073709551616) ∧ OkP g.l ∧ g.l.length ≤ 1000000
/-! ### Done -/
def doneG (g : Gv) : Bool := decide (g.l = [])
def done_s (L : Seal) : Ent1 := (39, fun xs => match xs with
  | [x] => some (L okGGv x, .bool (L doneG (L rdGGv x)))
  | _ => none)
theorem done_good : Good Tryz.prog (done_s std) := by
  intro xs p r h hp
  dsimp only [done_s] at h ⊢
  split at h <;> cases h
  try simp only [L2, L3, std] at hp ⊢
  rename_i x
  refine ac_g gvV_ok hp ?_
  show ACalls _ _ _ (.bool (doneG (rdGGv x)))
  show ACalls _ _ (gvA std (rdGGv x) :: _) _
  generalize rdGGv x = g
  refine acalls_L' (T := tt) (S := fun L => sumOf []) (lo := fun L => noA L) (lb := noA) 5 (fn := Tryz.f39) (xs := fun L => [gvA L g]) rfl rfl (by kernel_rfl) (by kernel_rfl) rfl tt_ok (sumOf_ok trivial) (by kernel_rfl) ?_
  intro L P' Q' hL hP hQ
  (cbv; try simp only [sat_need, sat_must, sat_ite, sat_done, sat_yes, sat_ex, sat_all, sat_sup, sat_and, sat_fail, true_and, and_true])
  (subst hL; subst hQ; simp only [L2, L3, std] at *; try simp only [sySet, reduceCtorEq, forall_const, Int.reduceToNat, Int.reduceAdd, Int.reduceSub, Int.cast_ofNat_Int, Int.toNat_natCast, Nat.le_eq, Nat.sub_eq, ne_eq, Decidable.not_not, implies_true, true_and, and_true, wadd, wsub, wmul, decide_eq_true_eq, decide_eq_false_iff_not, Nat.succ_eq_add_one, imp_false, not_false_eq_true, not_true_eq_false, false_imp_iff, true_imp_iff] at *)
  show ieq (g.l.length : Int) 0 = decide (g.l = [])
  unfold ieq
  rcases g with ⟨e, _ | ⟨p, l⟩⟩
  · rfl
  · simp
    omega
/-! ### Messages -/
def lenG (g : Gv) : Nat := g.l.length
def msgN (g : Gv) (i : Nat) : List UInt8 := hmT 16 g.e (nthPl g.l i)
def gvIn (g : Gv) : Prop := (0 ≤ g.e ∧ g.e < 18446744073709551616) ∧ allP g.l ∧ g.l.length ≤ 1000000
def msgs_s (L : Seal) : Ent1 := (33, fun xs => match xs with
  | [x] => some (L okGGv x ∧ L gvIn (L rdGGv x), .lst 1 (L lenG (L rdGGv x)) (fun i _ => .str (L (L msgN (L rdGGv x)) i)))
  | _ => none)
def leG (g : Gv) (i : Nat) : Prop := i ≤ g.l.length
def toG (g : Gv) (i : Nat) : Nat := g.l.length - i
def msgsA (L : Seal) (g : Gv) : Nat → St → Option Ann := fun id st => match id with
  | 0 => some ⟨Nat, fun i => [(9, .int .i64 (L natI i)), (3, .sl 900 1 0 i)], fun i => [(900, .row 9 1 i (fun j _ => .str (L (L msgN g) j)))], [1, 7, 8], [1], fun i => L2 L leG g i, fun i => L2 L toG g i⟩
  | _ => none
theorem msgs_good : Good Tryz.prog (msgs_s std) := by
  intro xs p r h hp
  dsimp only [msgs_s] at h ⊢
  split at h <;> cases h
  try simp only [L2, L3, std] at hp ⊢
  rename_i x
  refine ac_g gvV_ok hp.1 ?_
  have hp : gvIn (rdGGv x) := hp.2
  show ACalls _ _ (gvA std (rdGGv x) :: _) (.lst 1 (lenG (rdGGv x)) (fun i _ => .str (msgN (rdGGv x) i)))
  generalize rdGGv x = g at hp ⊢
  obtain ⟨he, ha, hz⟩ := hp
  refine acalls_L' (T := tt) (S := fun L => sumOf [hm_s 26 L]) (lo := fun L => msgsA L g) (lb := noA) 5 (fn := Tryz.f33) (xs := fun L => [gvA L g]) rfl rfl (by kernel_rfl) (by kernel_rfl) rfl tt_ok (sumOf_ok ⟨hm_good, trivial⟩) (by kernel_rfl) ?_
  intro L P' Q' hL hP hQ
  (cbv; try simp only [sat_need, sat_must, sat_ite, sat_done, sat_yes, sat_ex, sat_all, sat_sup, sat_and, sat_fail, true_and, and_true])
  refine ⟨⟨0, ?_⟩, fun i hi => ?_⟩
  · (cbv; try simp only [sat_need, sat_must, sat_ite, sat_done, sat_yes, sat_ex, sat_all, sat_sup, sat_and, sat_fail, true_and, and_true])
    (subst hL; subst hQ; simp only [L2, L3, std] at *; try simp only [sySet, reduceCtorEq, forall_const, Int.reduceToNat, Int.reduceAdd, Int.reduceSub, Int.cast_ofNat_Int, Int.toNat_natCast, Nat.le_eq, Nat.sub_eq, ne_eq, Decidable.not_not, implies_true, true_and, and_true, wadd, wsub, wmul, decide_eq_true_eq, decide_eq_false_iff_not, Nat.succ_eq_add_one, imp_false, not_false_eq_true, not_true_eq_false, false_imp_iff, true_imp_iff] at *)
    exact Nat.zero_le _
  · cbv at hi
    (cbv; try simp only [sat_need, sat_must, sat_ite, sat_done, sat_yes, sat_ex, sat_all, sat_sup, sat_and, sat_fail, true_and, and_true])
    have hE : ∀ y : Pl, L (L (L (L (L Pl.mk (L Pl.a y)) (L Pl.b y)) (L Pl.c y)) (L Pl.d y)) (L Pl.p y) = y := by subst hL; intro y; rfl
    have hi2 : i ≤ g.l.length := by
      have h := hi
      rw [hL] at h
      exact h
    have hlw : lenW g.l = g.l.length := rfl
    simp only [hE]
    refine ⟨fun hlt => ⟨?_, ?_, ?_, ⟨i + 1, ?_⟩⟩, fun hge => ?_⟩
    · (subst hL; subst hQ; simp only [L2, L3, std] at *; try simp only [sySet, reduceCtorEq, forall_const, Int.reduceToNat, Int.reduceAdd, Int.reduceSub, Int.cast_ofNat_Int, Int.toNat_natCast, Nat.le_eq, Nat.sub_eq, ne_eq, Decidable.not_not, implies_true, true_and, and_true, wadd, wsub, wmul, decide_eq_true_eq, decide_eq_false_iff_not, Nat.succ_eq_add_one, imp_false, not_false_eq_true, not_true_eq_false, false_imp_iff, true_imp_iff] at *)
      omega
    · (subst hL; subst hQ; simp only [L2, L3, std] at *; try simp only [sySet, reduceCtorEq, forall_const, Int.reduceToNat, Int.reduceAdd, Int.reduceSub, Int.cast_ofNat_Int, Int.toNat_natCast, Nat.le_eq, Nat.sub_eq, ne_eq, Decidable.not_not, implies_true, true_and, and_true, wadd, wsub, wmul, decide_eq_true_eq, decide_eq_false_iff_not, Nat.succ_eq_add_one, imp_false, not_false_eq_true, not_true_eq_false, false_imp_iff, true_imp_iff] at *)
      refine ⟨he, ?_⟩
      rw [nthPl_at (by omega)]
      exact ha _ (List.getElem_mem _)
    · (subst hL; subst hQ; simp only [L2, L3, std] at *; try simp only [sySet, reduceCtorEq, forall_const, Int.reduceToNat, Int.reduceAdd, Int.reduceSub, Int.cast_ofNat_Int, Int.toNat_natCast, Nat.le_eq, Nat.sub_eq, ne_eq, Decidable.not_not, implies_true, true_and, and_true, wadd, wsub, wmul, decide_eq_true_eq, decide_eq_false_iff_not, Nat.succ_eq_add_one, imp_false, not_false_eq_true, not_true_eq_false, false_imp_iff, true_imp_iff] at *)
      omega
    · (cbv; try simp only [sat_need, sat_must, sat_ite, sat_done, sat_yes, sat_ex, sat_all, sat_sup, sat_and, sat_fail, true_and, and_true])
      try simp only [hE]
      (subst hL; subst hQ; simp only [L2, L3, std] at *; try simp only [sySet, reduceCtorEq, forall_const, Int.reduceToNat, Int.reduceAdd, Int.reduceSub, Int.cast_ofNat_Int, Int.toNat_natCast, Nat.le_eq, Nat.sub_eq, ne_eq, Decidable.not_not, implies_true, true_and, and_true, wadd, wsub, wmul, decide_eq_true_eq, decide_eq_false_iff_not, Nat.succ_eq_add_one, imp_false, not_false_eq_true, not_true_eq_false, false_imp_iff, true_imp_iff] at *)
      refine ⟨fun k j hk hj => ?_, by omega, by show i + 1 ≤ _; omega, by show g.l.length - (i + 1) + 1 ≤ g.l.length - i; omega⟩
      by_cases hk' : k < i
      · rw [blt_t hk']; rfl
      · have : k = i := by omega
        subst this
        rw [blt_f (by omega), Nat.sub_self]
        match j, hj with
        | 0, _ => rfl
    · (subst hL; subst hQ; simp only [L2, L3, std] at *; try simp only [sySet, reduceCtorEq, forall_const, Int.reduceToNat, Int.reduceAdd, Int.reduceSub, Int.cast_ofNat_Int, Int.toNat_natCast, Nat.le_eq, Nat.sub_eq, ne_eq, Decidable.not_not, implies_true, true_and, and_true, wadd, wsub, wmul, decide_eq_true_eq, decide_eq_false_iff_not, Nat.succ_eq_add_one, imp_false, not_false_eq_true, not_true_eq_false, false_imp_iff, true_imp_iff] at *)
      show i = g.l.length
      omega
/-! ### Give -/
def gaveN (l : List Pl) (i : Nat) : List Pl := giveL [] (l.take i)
def gaveL (l : List Pl) : List Pl := giveL [] l
def leN {α : Type} (l : List α) (i : Nat) : Prop := i ≤ l.length
def toN {α : Type} (l : List α) (i : Nat) : Nat := l.length - i
def give_s (L : Seal) : Ent1 := (30, fun xs => match xs with
  | [.int .u64 e, x] => some (L okWPl x ∧ L lenE (L rdWPl x) ∧ L allP (L rdWPl x), .agg [.int .u64 e, lstPl L (L gaveL (L rdWPl x))])
  | _ => none)
def giveA (L : Seal) (e : Int) (l : List Pl) : Nat → St → Option Ann := fun id st => match id with
  | 0 => some ⟨Nat, fun i => [(12, .int .i64 (L natI i)), (5, .ref 5 0)], fun i => [(5, .box 80 [.int .u64 e, lstPl L (L (L gaveN l) i)])], [4, 10, 11], [4], fun i => L2 L leN l i, fun i => L2 L toN l i⟩
  | _ => none
theorem gaveN_len {l : List Pl} {i : Nat} (h : i ≤ l.length) : (gaveN l i).length ≤ i := by
  have := give_len (l := l.take i) (g := [])
  rw [List.length_take, Nat.min_eq_left h] at this
  unfold gaveN
  simpa using this
theorem gaveN_ok {l : List Pl} (h : allP l) (i : Nat) : OkP (gaveN l i) := okP_give (fun x hx => h x (List.mem_of_mem_take hx)) okP_nil
theorem gaveN_step {l : List Pl} {i : Nat} (h : i < l.length) : withL (gaveN l i) (nthPl l i) = gaveN l (i + 1) := by
  unfold gaveN
  rw [List.take_succ_eq_append_getElem h, give_snoc, nthPl_at h]
theorem give_good : Good Tryz.prog (give_s std) := by
  intro xs p r h hp
  dsimp only [give_s] at h ⊢
  split at h <;> cases h
  try simp only [L2, L3, std] at hp ⊢
  rename_i e x
  obtain ⟨ho, hz, ha⟩ := hp
  refine ac_w2 plV_ok ho ?_
  have hz : lenE (rdWPl x) := hz
  have ha : allP (rdWPl x) := ha
  show ACalls _ _ (_ :: lstW std plV (rdWPl x) :: _) (.agg [.int .u64 e, lstPl std (gaveL (rdWPl x))])
  generalize rdWPl x = l at hz ha ⊢
  have hz : l.length ≤ 1000000 := hz
  have hlw : lenW l = l.length := rfl
  refine acalls_L' (T := tt) (S := fun L => sumOf [wit_s L]) (lo := fun L => giveA L e l) (lb := noA) 5 (fn := Tryz.f30) (xs := fun L => [.int .u64 e, lstPl L l]) rfl rfl (by kernel_rfl) (by kernel_rfl) rfl tt_ok (sumOf_ok ⟨wit_good, trivial⟩) (by kernel_rfl) ?_
  intro L P' Q' hL hP hQ
  have hG : ∀ y : List Pl, L rdWPl (.lst 5 (L lenW y) (fun i => plC L (L (L nthPl y) i))) = y := by subst hL; exact fun y => rdwPl y
  have hO : ∀ y : List Pl, L okWPl (.lst 5 (L lenW y) (fun i => plC L (L (L nthPl y) i))) := by subst hL; exact fun y => okwPl y
  have hE : ∀ y : Pl, L (L (L (L (L Pl.mk (L Pl.a y)) (L Pl.b y)) (L Pl.c y)) (L Pl.d y)) (L Pl.p y) = y := by subst hL; intro y; rfl
  (cbv; try simp only [sat_need, sat_must, sat_ite, sat_done, sat_yes, sat_ex, sat_all, sat_sup, sat_and, sat_fail, true_and, and_true])
  refine ⟨⟨0, ?_⟩, fun i hi => ?_⟩
  · (cbv; try simp only [sat_need, sat_must, sat_ite, sat_done, sat_yes, sat_ex, sat_all, sat_sup, sat_and, sat_fail, true_and, and_true])
    (subst hL; subst hQ; simp only [L2, L3, std] at *; try simp only [sySet, reduceCtorEq, forall_const, Int.reduceToNat, Int.reduceAdd, Int.reduceSub, Int.cast_ofNat_Int, Int.toNat_natCast, Nat.le_eq, Nat.sub_eq, ne_eq, Decidable.not_not, implies_true, true_and, and_true, wadd, wsub, wmul, decide_eq_true_eq, decide_eq_false_iff_not, Nat.succ_eq_add_one, imp_false, not_false_eq_true, not_true_eq_false, false_imp_iff, true_imp_iff] at *)
    exact ⟨rfl, Nat.zero_le _⟩
  · cbv at hi
    have hE2 : ∀ y : Pl, mkPl L (L Pl.a y) (L Pl.b y) (L Pl.c y) (L Pl.d y) (L Pl.p y) = y := by subst hL; intro y; rfl
    have hi2 : i ≤ l.length := by
      have h := hi
      rw [hL] at h
      exact h
    have hgl := gaveN_len hi2
    have hgo := gaveN_ok ha i
    (cbv; try simp only [sat_need, sat_must, sat_ite, sat_done, sat_yes, sat_ex, sat_all, sat_sup, sat_and, sat_fail, true_and, and_true])
    simp only [hE, hG, hE2]
    refine ⟨fun hlt => ⟨?_, ⟨hO _, ?_, ?_, ?_⟩, ⟨i + 1, ?_⟩⟩, fun hge => ?_⟩
    · (subst hL; subst hQ; simp only [L2, L3, std] at *; try simp only [sySet, reduceCtorEq, forall_const, Int.reduceToNat, Int.reduceAdd, Int.reduceSub, Int.cast_ofNat_Int, Int.toNat_natCast, Nat.le_eq, Nat.sub_eq, ne_eq, Decidable.not_not, implies_true, true_and, and_true, wadd, wsub, wmul, decide_eq_true_eq, decide_eq_false_iff_not, Nat.succ_eq_add_one, imp_false, not_false_eq_true, not_true_eq_false, false_imp_iff, true_imp_iff] at *)
      omega
    · (subst hL; subst hQ; simp only [L2, L3, std] at *; try simp only [sySet, reduceCtorEq, forall_const, Int.reduceToNat, Int.reduceAdd, Int.reduceSub, Int.cast_ofNat_Int, Int.toNat_natCast, Nat.le_eq, Nat.sub_eq, ne_eq, Decidable.not_not, implies_true, true_and, and_true, wadd, wsub, wmul, decide_eq_true_eq, decide_eq_false_iff_not, Nat.succ_eq_add_one, imp_false, not_false_eq_true, not_true_eq_false, false_imp_iff, true_imp_iff] at *)
      show _ ≤ 1000000
      omega
    · (subst hL; subst hQ; simp only [L2, L3, std] at *; try simp only [sySet, reduceCtorEq, forall_const, Int.reduceToNat, Int.reduceAdd, Int.reduceSub, Int.cast_ofNat_Int, Int.toNat_natCast, Nat.le_eq, Nat.sub_eq, ne_eq, Decidable.not_not, implies_true, true_and, and_true, wadd, wsub, wmul, decide_eq_true_eq, decide_eq_false_iff_not, Nat.succ_eq_add_one, imp_false, not_false_eq_true, not_true_eq_false, false_imp_iff, true_imp_iff] at *)
      exact hgo
    · (subst hL; subst hQ; simp only [L2, L3, std] at *; try simp only [sySet, reduceCtorEq, forall_const, Int.reduceToNat, Int.reduceAdd, Int.reduceSub, Int.cast_ofNat_Int, Int.toNat_natCast, Nat.le_eq, Nat.sub_eq, ne_eq, Decidable.not_not, implies_true, true_and, and_true, wadd, wsub, wmul, decide_eq_true_eq, decide_eq_false_iff_not, Nat.succ_eq_add_one, imp_false, not_false_eq_true, not_true_eq_false, false_imp_iff, true_imp_iff] at *)
      rw [nthPl_at (by omega)]
      exact ha _ (List.getElem_mem _)
    · (cbv; try simp only [sat_need, sat_must, sat_ite, sat_done, sat_yes, sat_ex, sat_all, sat_sup, sat_and, sat_fail, true_and, and_true])
      try simp only [hE, hG, hE2]
      (subst hL; subst hQ; simp only [L2, L3, std] at *; try simp only [sySet, reduceCtorEq, forall_const, Int.reduceToNat, Int.reduceAdd, Int.reduceSub, Int.cast_ofNat_Int, Int.toNat_natCast, Nat.le_eq, Nat.sub_eq, ne_eq, Decidable.not_not, implies_true, true_and, and_true, wadd, wsub, wmul, decide_eq_true_eq, decide_eq_false_iff_not, Nat.succ_eq_add_one, imp_false, not_false_eq_true, not_true_eq_false, false_imp_iff, true_imp_iff] at *)
      rw [gaveN_step (by omega)]
      exact ⟨⟨rfl, fun _ _ _ _ => rfl⟩, by omega, by show i + 1 ≤ _; omega, by show l.length - (i + 1) + 1 ≤ l.length - i; omega⟩
    · (subst hL; subst hQ; simp only [L2, L3, std] at *; try simp only [sySet, reduceCtorEq, forall_const, Int.reduceToNat, Int.reduceAdd, Int.reduceSub, Int.cast_ofNat_Int, Int.toNat_natCast, Nat.le_eq, Nat.sub_eq, ne_eq, Decidable.not_not, implies_true, true_and, and_true, wadd, wsub, wmul, decide_eq_true_eq, decide_eq_false_iff_not, Nat.succ_eq_add_one, imp_false, not_false_eq_true, not_true_eq_false, false_imp_iff, true_imp_iff] at *)
      have hg : gaveL l = gaveN l i := by
        unfold gaveL gaveN
        rw [List.take_of_length_le (by omega)]
      rw [hg]
      show fits1 (.agg [.lst 5 (lenW (gaveN l i)) fun q => plC std (nthPl (gaveN l i) q)]) _
      rw [fits1_aggl, fits1_agg0]
      exact ⟨⟨rfl, fun _ _ _ _ => rfl⟩, trivial⟩
/-! ### The Taker's Take -/
def tkQ (g : Gv) (s : List UInt8) : Pl := rdQ s 16 g.e
def tkE (g : Gv) (s : List UInt8) : Int := if rdE s 16 g.e ≠ 0 then rdE s 16 g.e else if newP g.l (tkQ g s) = true then 0 else 11
def tkG (g : Gv) (s : List UInt8) : Gv := if tkE g s = 0 then ⟨g.e, withL g.l (tkQ g s)⟩ else g
def tkP (g : Gv) (s : List UInt8) : Pl := if tkE g s = 0 then tkQ g s else pl0
def tkS (g : Gv) (s : List UInt8) : List UInt8 := if rdE s 16 g.e = 0 then hmT 17 g.e (tkQ g s) else []
theorem gv_fit {g g1 : Gv} (h : g = g1) : fits1 (gvA std g1) (.agg [.int .u64 g.e, .lst 5 (lenW g.l) (fun i => plC std (nthPl g.l i))]) := by
  subst h
  show fits1 (.agg [.int .u64 g.e, .lst 5 (lenW g.l) (fun i => plC std (nthPl g.l i))]) _
  rw [fits1_aggi, fits1_aggl, fits1_agg0]
  exact ⟨rfl, ⟨rfl, fun _ _ _ _ => rfl⟩, trivial⟩
theorem tk_bad {g : Gv} {s : List UInt8} (h : ¬ rdE s 16 g.e = 0) : tkE g s = rdE s 16 g.e ∧ tkG g s = g ∧ tkP g s = pl0 ∧ tkS g s = [] := by
  have e : tkE g s = rdE s 16 g.e := if_pos h
  refine ⟨e, ?_, ?_, if_neg h⟩
  · rw [tkG, if_neg (by rw [e]; exact h)]
  · rw [tkP, if_neg (by rw [e]; exact h)]
theorem tk_old {g : Gv} {s : List UInt8} (h : rdE s 16 g.e = 0) (h2 : newP g.l (rdQ s 16 g.e) = false) : tkE g s = 11 ∧ tkG g s = g ∧ tkP g s = pl0 ∧ tkS g s = hmT 17 g.e (rdQ s 16 g.e) := by
  have e : tkE g s = 11 := by
    rw [tkE, if_neg (by simp [h]), if_neg]
    show ¬ newP g.l (rdQ s 16 g.e) = true
    rw [h2]; decide
  refine ⟨e, ?_, ?_, if_pos h⟩
  · rw [tkG, if_neg (by rw [e]; decide)]
  · rw [tkP, if_neg (by rw [e]; decide)]
theorem tk_new {g : Gv} {s : List UInt8} (h : rdE s 16 g.e = 0) (h2 : newP g.l (rdQ s 16 g.e) = true) : tkE g s = 0 ∧ tkG g s = ⟨g.e, withL g.l (rdQ s 16 g.e)⟩ ∧ tkP g s = rdQ s 16 g.e ∧ tkS g s = hmT 17 g.e (rdQ s 16 g.e) := by
  have e : tkE g s = 0 := by
    rw [tkE, if_neg (by simp [h]), if_pos]
    exact h2
  refine ⟨e, ?_, ?_, if_pos h⟩
  · rw [tkG, if_pos e]; rfl
  · rw [tkP, if_pos e]; rfl
def ttake_s (L : Seal) : Ent1 := (34, fun xs => match xs with
  | [x, .str s] => some (L okGGv x ∧ L gvOk (L rdGGv x) ∧ L2 L upto 900000 s, .tup [gvA L (L2 L tkG (L rdGGv x) s), plA L (L2 L tkP (L rdGGv x) s), .str (L2 L tkS (L rdGGv x) s), .int .i64 (L2 L tkE (L rdGGv x) s)])
  | _ => none)
theorem ttake_good : Good Tryz.prog (ttake_s std) := by
  intro xs p r h hp
  dsimp only [ttake_s] at h ⊢
  split at h <;> cases h
  try simp only [L2, L3, std] at hp ⊢
  rename_i x s
  obtain ⟨ho, hg, hs⟩ := hp
  refine ac_g gvV_ok ho ?_
  have hg : gvOk (rdGGv x) := hg
  have hs : s.length ≤ 900000 := hs
  show ACalls _ _ (gvA std (rdGGv x) :: _) (.tup [gvA std (tkG (rdGGv x) s), plA std (tkP (rdGGv x) s), .str (tkS (rdGGv x) s), .int .i64 (tkE (rdGGv x) s)])
  generalize rdGGv x = g at hg ⊢
  obtain ⟨he, hok, hz⟩ := hg
  refine acalls_L' (T := tt) (S := fun L => sumOf [hm_s 26 L, hrd_s L, wit_s L]) (lo := fun L => noA L) (lb := noA) 5 (fn := Tryz.f34) (xs := fun L => [gvA L g, .str s]) rfl rfl (by kernel_rfl) (by kernel_rfl) rfl tt_ok (sumOf_ok ⟨hm_good, hrd_good, wit_good, trivial⟩) (by kernel_rfl) ?_
  intro L P' Q' hL hP hQ
  have hG : ∀ y : List Pl, L rdWPl (.lst 5 (L lenW y) (fun i => plC L (L (L nthPl y) i))) = y := by subst hL; exact fun y => rdwPl y
  have hO : ∀ y : List Pl, L okWPl (.lst 5 (L lenW y) (fun i => plC L (L (L nthPl y) i))) := by subst hL; exact fun y => okwPl y
  have hE : ∀ y : Pl, L (L (L (L (L Pl.mk (L Pl.a y)) (L Pl.b y)) (L Pl.c y)) (L Pl.d y)) (L Pl.p y) = y := by subst hL; intro y; rfl
  have hE2 : ∀ y : Pl, mkPl L (L Pl.a y) (L Pl.b y) (L Pl.c y) (L Pl.d y) (L Pl.p y) = y := by subst hL; intro y; rfl
  (cbv; try simp only [sat_need, sat_must, sat_ite, sat_done, sat_yes, sat_ex, sat_all, sat_sup, sat_and, sat_fail, true_and, and_true])
  simp only [hG, hE, hE2]
  have hq := rdQ_ok s 16 g.e
  refine ⟨?_, fun h1 => ?_, fun h1 => ⟨?_, ⟨hO _, ?_, ?_, ?_⟩, fun h2 => ?_, fun h2 => ?_⟩⟩
  · (subst hL; subst hQ; simp only [L2, L3, std] at *; try simp only [sySet, reduceCtorEq, forall_const, Int.reduceToNat, Int.reduceAdd, Int.reduceSub, Int.cast_ofNat_Int, Int.toNat_natCast, Nat.le_eq, Nat.sub_eq, ne_eq, Decidable.not_not, implies_true, true_and, and_true, wadd, wsub, wmul, decide_eq_true_eq, decide_eq_false_iff_not, Nat.succ_eq_add_one, imp_false, not_false_eq_true, not_true_eq_false, false_imp_iff, true_imp_iff] at *)
    exact hs
  · (subst hL; subst hQ; simp only [L2, L3, std] at *; try simp only [sySet, reduceCtorEq, forall_const, Int.reduceToNat, Int.reduceAdd, Int.reduceSub, Int.cast_ofNat_Int, Int.toNat_natCast, Nat.le_eq, Nat.sub_eq, ne_eq, Decidable.not_not, implies_true, true_and, and_true, wadd, wsub, wmul, decide_eq_true_eq, decide_eq_false_iff_not, Nat.succ_eq_add_one, imp_false, not_false_eq_true, not_true_eq_false, false_imp_iff, true_imp_iff] at *)
    obtain ⟨k0, k1, k2, k3⟩ := tk_bad h1
    exact ⟨gv_fit k1.symm, pl_fit k2, k3.symm, k0.symm⟩
  · (subst hL; subst hQ; simp only [L2, L3, std] at *; try simp only [sySet, reduceCtorEq, forall_const, Int.reduceToNat, Int.reduceAdd, Int.reduceSub, Int.cast_ofNat_Int, Int.toNat_natCast, Nat.le_eq, Nat.sub_eq, ne_eq, Decidable.not_not, implies_true, true_and, and_true, wadd, wsub, wmul, decide_eq_true_eq, decide_eq_false_iff_not, Nat.succ_eq_add_one, imp_false, not_false_eq_true, not_true_eq_false, false_imp_iff, true_imp_iff] at *)
    exact ⟨he, hq⟩
  · (subst hL; subst hQ; simp only [L2, L3, std] at *; try simp only [sySet, reduceCtorEq, forall_const, Int.reduceToNat, Int.reduceAdd, Int.reduceSub, Int.cast_ofNat_Int, Int.toNat_natCast, Nat.le_eq, Nat.sub_eq, ne_eq, Decidable.not_not, implies_true, true_and, and_true, wadd, wsub, wmul, decide_eq_true_eq, decide_eq_false_iff_not, Nat.succ_eq_add_one, imp_false, not_false_eq_true, not_true_eq_false, false_imp_iff, true_imp_iff] at *)
    exact hz
  · (subst hL; subst hQ; simp only [L2, L3, std] at *; try simp only [sySet, reduceCtorEq, forall_const, Int.reduceToNat, Int.reduceAdd, Int.reduceSub, Int.cast_ofNat_Int, Int.toNat_natCast, Nat.le_eq, Nat.sub_eq, ne_eq, Decidable.not_not, implies_true, true_and, and_true, wadd, wsub, wmul, decide_eq_true_eq, decide_eq_false_iff_not, Nat.succ_eq_add_one, imp_false, not_false_eq_true, not_true_eq_false, false_imp_iff, true_imp_iff] at *)
    exact hok
  · (subst hL; subst hQ; simp only [L2, L3, std] at *; try simp only [sySet, reduceCtorEq, forall_const, Int.reduceToNat, Int.reduceAdd, Int.reduceSub, Int.cast_ofNat_Int, Int.toNat_natCast, Nat.le_eq, Nat.sub_eq, ne_eq, Decidable.not_not, implies_true, true_and, and_true, wadd, wsub, wmul, decide_eq_true_eq, decide_eq_false_iff_not, Nat.succ_eq_add_one, imp_false, not_false_eq_true, not_true_eq_false, false_imp_iff, true_imp_iff] at *)
    exact hq
  · (subst hL; subst hQ; simp only [L2, L3, std] at *; try simp only [sySet, reduceCtorEq, forall_const, Int.reduceToNat, Int.reduceAdd, Int.reduceSub, Int.cast_ofNat_Int, Int.toNat_natCast, Nat.le_eq, Nat.sub_eq, ne_eq, Decidable.not_not, implies_true, true_and, and_true, wadd, wsub, wmul, decide_eq_true_eq, decide_eq_false_iff_not, Nat.succ_eq_add_one, imp_false, not_false_eq_true, not_true_eq_false, false_imp_iff, true_imp_iff] at *)
    obtain ⟨k0, k1, k2, k3⟩ := tk_old h1 h2
    exact ⟨gv_fit k1.symm, pl_fit k2, k3.symm, k0.symm⟩
  · (subst hL; subst hQ; simp only [L2, L3, std] at *; try simp only [sySet, reduceCtorEq, forall_const, Int.reduceToNat, Int.reduceAdd, Int.reduceSub, Int.cast_ofNat_Int, Int.toNat_natCast, Nat.le_eq, Nat.sub_eq, ne_eq, Decidable.not_not, implies_true, true_and, and_true, wadd, wsub, wmul, decide_eq_true_eq, decide_eq_false_iff_not, Nat.succ_eq_add_one, imp_false, not_false_eq_true, not_true_eq_false, false_imp_iff, true_imp_iff] at *)
    obtain ⟨k0, k1, k2, k3⟩ := tk_new h1 h2
    refine ⟨gv_fit (g := ⟨g.e, withL g.l (rdQ s 16 g.e)⟩) k1.symm, ?_, k3.symm, k0.symm⟩
    rw [k2]
    exact pl_fit rfl
end Sy
end Go.Proofs.YtckbbcjbbmgmoaaGreatDoor
namespace Go.Proofs.YtckbbcjbbmgmoaaGreatDoor
namespace Sy
open Go Go.RowKit
set_option maxRecDepth 100000
set_option linter.unusedSimpArgs false
set_option linter.unusedVariables false
/-! ### The predicate -/
def eqP (p x : Pl) : Bool := decide (x = p)
theorem eqP_ieq (a b c d q a1 b1 c1 d1 q1 : Int) : ((ieq a a1 && (ieq b b1 && (ieq c c1 && (ieq d d1 && true)))) && (ieq q q1 && true)) = eqP ⟨a1, b1, c1, d1, q1⟩ ⟨a, b, c, d, q⟩ := by
  rw [Bool.eq_iff_iff]
  simp only [ieq, eqP, Bool.and_eq_true, decide_eq_true_eq, beq_iff_eq, Pl.mk.injEq, and_true]
  constructor
  · rintro ⟨⟨h1, h2, h3, h4⟩, h5⟩
    exact ⟨h1, h2, h3, h4, h5⟩
  · rintro ⟨h1, h2, h3, h4, h5⟩
    exact ⟨⟨h1, h2, h3, h4⟩, h5⟩
def takeP_m (L : Seal) : EntM := (98, fun raw ob => match raw with
  | [.agg [.int .u8 a, .int .u8 b, .int .u8 c, .int .u8 d, .int .u16 q], .ref k 0] => match ob k with
    | some (.box _ [.int .u8 a1, .int .u8 b1, .int .u8 c1, .int .u8 d1, .int .u16 q1]) => some ⟨[.agg [.int .u8 a, .int .u8 b, .int .u8 c, .int .u8 d, .int .u16 q], .ref 500000 0], [(500000, .box 36 [.int .u8 a1, .int .u8 b1, .int .u8 c1, .int .u8 d1, .int .u16 q1])], True, .bool (L2 L eqP (mkPl L a1 b1 c1 d1 q1) (mkPl L a b c d q)), [(500000, .box 36 [.int .u8 a1, .int .u8 b1, .int .u8 c1, .int .u8 d1, .int .u16 q1])]⟩
    | _ => none
  | _ => none)
theorem takeP_good : GoodM Tryz.prog (takeP_m std) := by
  intro raw ob T h hp
  unfold takeP_m at h
  simp only at h
  split at h
  rotate_left
  · cases h
  rename_i a b c d q k
  split at h
  rotate_left
  · cases h
  rename_i t a1 b1 c1 d1 q1 _
  cases h
  refine mcalls_L (T := tt) (S := fun L => sumOfM [] []) (lo := noA) (lb := noA) 5 (fn := Tryz.f98) (xs := fun L => [.agg [.int .u8 a, .int .u8 b, .int .u8 c, .int .u8 d, .int .u16 q], .ref 500000 0]) (rts := fun L => [.bool (L2 L eqP (mkPl L a1 b1 c1 d1 q1) (mkPl L a b c d q))]) (O := fun L => [(500000, .box 36 [.int .u8 a1, .int .u8 b1, .int .u8 c1, .int .u8 d1, .int .u16 q1])]) (O1 := fun L => [(500000, .box 36 [.int .u8 a1, .int .u8 b1, .int .u8 c1, .int .u8 d1, .int .u16 q1])]) rfl rfl (by kernel_rfl) (by kernel_rfl) (by kernel_rfl) tt_ok (sumOfM_ok trivial trivial) (by kernel_rfl) ?_
  intro L P' Q' hL hP hQ
  (cbv; try simp only [sat_need, sat_must, sat_ite, sat_done, sat_yes, sat_ex, sat_all, sat_sup, sat_and, sat_fail, true_and, and_true])
  (subst hL; subst hQ; simp only [L2, L3, std] at *; try simp only [sySet, reduceCtorEq, forall_const, Int.reduceToNat, Int.reduceAdd, Int.reduceSub, Int.cast_ofNat_Int, Int.toNat_natCast, Nat.le_eq, Nat.sub_eq, ne_eq, Decidable.not_not, implies_true, true_and, and_true, wadd, wsub, wmul, decide_eq_true_eq, decide_eq_false_iff_not, Nat.succ_eq_add_one, imp_false, not_false_eq_true, not_true_eq_false, false_imp_iff, true_imp_iff] at *)
  exact eqP_ieq a b c d q a1 b1 c1 d1 q1
/-! ### IndexFunc -/
def idxP (p : Pl) (l : List Pl) : Int := idxW (eqP p) l
def noneP (p : Pl) (l : List Pl) (i : Nat) : Prop := noneW (eqP p) l i
def plO (L : Seal) (p : Pl) : Nat × Ob := (500001, .box 36 [.int .u8 (L Pl.a p), .int .u8 (L Pl.b p), .int .u8 (L Pl.c p), .int .u8 (L Pl.d p), .int .u16 (L Pl.p p)])
def rowO (L : Seal) (n : Nat) (l : List Pl) : Nat × Ob := (500000, .row 36 5 n (fun i => plC L (L (L nthPl l) i)))
def dargs (n : Nat) : List AV := [.sl 500000 5 0 n, .fn 98 [] [.ref 500001 0]]
def idxM (L : Seal) : EntM := (157, fun raw ob => match raw with
  | [.sl a 5 0 n, .fn g [] [.ref k 0]] => match nbeq g 98, ob a, ob k with
    | true, some (.row _ _ m get), some (.box _ [.int .u8 a1, .int .u8 b1, .int .u8 c1, .int .u8 d1, .int .u16 q1]) => some ⟨[.sl 500000 5 0 n, .fn 98 [] [.ref 500001 0]], [(500000, .row 36 5 n get), (500001, .box 36 [.int .u8 a1, .int .u8 b1, .int .u8 c1, .int .u8 d1, .int .u16 q1])], L okWPl (.lst 5 n get) ∧ L upN n, .int .i64 (L2 L idxP (mkPl L a1 b1 c1 d1 q1) (L rdWPl (.lst 5 n get))), [(500000, .row 36 5 n (fun i => plC L (L (L nthPl (L rdWPl (.lst 5 n get))) i))), (500001, .box 36 [.int .u8 a1, .int .u8 b1, .int .u8 c1, .int .u8 d1, .int .u16 q1])]⟩
    | _, _, _ => none
  | _ => none)
def ixpA (L : Seal) (p : Pl) (l : List Pl) : Nat → St → Option Ann := fun id st => match id with
  | 0 => some ⟨Nat, fun i => [(8, .int .i64 (L natI i))], fun i => [], [0, 1, 7], [500000, 500001], fun i => L (L (L noneP p) l) i, fun i => L2 L toN l i⟩
  | _ => none
theorem idxrun {p : Pl} {l : List Pl} {n : Nat} (hz : n ≤ 1000000) (hlw : n = l.length) : MCalls Tryz.prog 157 (dargs n) [rowO std n l, plO std p] (.int .i64 (idxP p l)) [rowO std n l, plO std p] := by
  refine mcalls_L (T := tt) (S := fun L => sumOfM [] [takeP_m L]) (lo := fun L => ixpA L p l) (lb := noA) 5 (fn := Tryz.f157) (xs := fun L => dargs n) (rts := fun L => [.int .i64 (L2 L idxP p l)]) (O := fun L => [rowO L n l, plO L p]) (O1 := fun L => [rowO L n l, plO L p]) rfl rfl (by kernel_rfl) (by kernel_rfl) (by kernel_rfl) tt_ok (sumOfM_ok trivial ⟨takeP_good, trivial⟩) (by kernel_rfl) ?_
  intro L P' Q' hL hP hQ
  have hE2 : ∀ y : Pl, mkPl L (L Pl.a y) (L Pl.b y) (L Pl.c y) (L Pl.d y) (L Pl.p y) = y := by subst hL; intro y; rfl
  have hE : ∀ y : Pl, L (L (L (L (L Pl.mk (L Pl.a y)) (L Pl.b y)) (L Pl.c y)) (L Pl.d y)) (L Pl.p y) = y := by subst hL; intro y; rfl
  (cbv; try simp only [sat_need, sat_must, sat_ite, sat_done, sat_yes, sat_ex, sat_all, sat_sup, sat_and, sat_fail, true_and, and_true])
  refine ⟨⟨0, ?_⟩, fun i hi => ?_⟩
  · (cbv; try simp only [sat_need, sat_must, sat_ite, sat_done, sat_yes, sat_ex, sat_all, sat_sup, sat_and, sat_fail, true_and, and_true])
    (subst hL; subst hQ; simp only [L2, L3, std] at *; try simp only [sySet, reduceCtorEq, forall_const, Int.reduceToNat, Int.reduceAdd, Int.reduceSub, Int.cast_ofNat_Int, Int.toNat_natCast, Nat.le_eq, Nat.sub_eq, ne_eq, Decidable.not_not, implies_true, true_and, and_true, wadd, wsub, wmul, decide_eq_true_eq, decide_eq_false_iff_not, Nat.succ_eq_add_one, imp_false, not_false_eq_true, not_true_eq_false, false_imp_iff, true_imp_iff] at *)
    exact noneW_0 _ _
  · have hi2 : noneP p l i := by
      have h := hi
      rw [hL] at h
      exact h
    clear hi
    (cbv; try simp only [sat_need, sat_must, sat_ite, sat_done, sat_yes, sat_ex, sat_all, sat_sup, sat_and, sat_fail, true_and, and_true])
    simp only [hE, hE2]
    refine ⟨fun hlt => ⟨?_, fun hb => ?_, fun hb => ⟨i + 1, ?_⟩⟩, fun hge => ?_⟩
    · (subst hL; subst hQ; simp only [L2, L3, std] at *; try simp only [sySet, reduceCtorEq, forall_const, Int.reduceToNat, Int.reduceAdd, Int.reduceSub, Int.cast_ofNat_Int, Int.toNat_natCast, Nat.le_eq, Nat.sub_eq, ne_eq, Decidable.not_not, implies_true, true_and, and_true, wadd, wsub, wmul, decide_eq_true_eq, decide_eq_false_iff_not, Nat.succ_eq_add_one, imp_false, not_false_eq_true, not_true_eq_false, false_imp_iff, true_imp_iff] at *)
      omega
    · (subst hL; subst hQ; simp only [L2, L3, std] at *; try simp only [sySet, reduceCtorEq, forall_const, Int.reduceToNat, Int.reduceAdd, Int.reduceSub, Int.cast_ofNat_Int, Int.toNat_natCast, Nat.le_eq, Nat.sub_eq, ne_eq, Decidable.not_not, implies_true, true_and, and_true, wadd, wsub, wmul, decide_eq_true_eq, decide_eq_false_iff_not, Nat.succ_eq_add_one, imp_false, not_false_eq_true, not_true_eq_false, false_imp_iff, true_imp_iff] at *)
      exact (noneW_yes (V := plV) hi2 (by omega) hb).symm
    · (cbv; try simp only [sat_need, sat_must, sat_ite, sat_done, sat_yes, sat_ex, sat_all, sat_sup, sat_and, sat_fail, true_and, and_true])
      try simp only [hE, hE2]
      (subst hL; subst hQ; simp only [L2, L3, std] at *; try simp only [sySet, reduceCtorEq, forall_const, Int.reduceToNat, Int.reduceAdd, Int.reduceSub, Int.cast_ofNat_Int, Int.toNat_natCast, Nat.le_eq, Nat.sub_eq, ne_eq, Decidable.not_not, implies_true, true_and, and_true, wadd, wsub, wmul, decide_eq_true_eq, decide_eq_false_iff_not, Nat.succ_eq_add_one, imp_false, not_false_eq_true, not_true_eq_false, false_imp_iff, true_imp_iff] at *)
      exact ⟨by omega, noneW_step (V := plV) hi2 (by omega) hb, by show l.length - (i + 1) + 1 ≤ l.length - i; omega⟩
    · (subst hL; subst hQ; simp only [L2, L3, std] at *; try simp only [sySet, reduceCtorEq, forall_const, Int.reduceToNat, Int.reduceAdd, Int.reduceSub, Int.cast_ofNat_Int, Int.toNat_natCast, Nat.le_eq, Nat.sub_eq, ne_eq, Decidable.not_not, implies_true, true_and, and_true, wadd, wsub, wmul, decide_eq_true_eq, decide_eq_false_iff_not, Nat.succ_eq_add_one, imp_false, not_false_eq_true, not_true_eq_false, false_imp_iff, true_imp_iff] at *)
      exact (noneW_end hi2 (by omega)).symm
theorem idxM_good : GoodM Tryz.prog (idxM std) := by
  intro raw ob T h hp
  unfold idxM at h
  simp only at h
  split at h
  rotate_left
  · cases h
  rename_i a n g k
  split at h
  rotate_left
  · cases h
  rename_i t m get t1 a1 b1 c1 d1 q1 hg _ _
  obtain rfl : g = 98 := of_decide_eq_true hg
  cases h
  obtain ⟨ho, hn⟩ := hp
  have ho : okWPl (.lst 5 n get) := ho
  have hn : n ≤ 1000000 := hn
  have hl : (rdWPl (.lst 5 n get)).length = n := rdW_len _ _ _ _
  refine mc_row plV_ok ho ?_
  exact idxrun (p := ⟨a1, b1, c1, d1, q1⟩) (l := rdWPl (.lst 5 n get)) hn hl.symm
/-! ### DeleteFunc -/
/-- What is kept of the first; the row behind i rounds; the row at the end. -/
def keepP (p : Pl) (l : List Pl) (i : Nat) : List Pl := dropP (l.take i) p
def kN (p : Pl) (l : List Pl) (i : Nat) : Nat := (keepP p l i).length
def dG (p : Pl) (l : List Pl) (i : Nat) : List Pl := keepP p l i ++ l.drop (kN p l i)
def dN (p : Pl) (l : List Pl) : Nat := (dropP l p).length
def clrL (p : Pl) (l : List Pl) : List Pl := dropP l p ++ List.replicate (l.length - dN p l) pl0
def dOk (p : Pl) (l : List Pl) (i : Nat) : Prop := i ≤ l.length
theorem nthPl_get (l : List Pl) (q : Nat) : nthPl l q = (l[q]?).getD pl0 := by
  show l.getD q pl0 = _
  rw [List.getD_eq_getElem?_getD]
theorem drop_none {p : Pl} {l : List Pl} (h : ∀ x ∈ l, eqP p x = false) : dropP l p = l := by
  unfold dropP
  rw [List.filter_eq_self]
  intro x hx
  have := h x hx
  unfold eqP at this
  simpa using this
theorem idxW_sp {α : Type} (p : α → Bool) : ∀ l : List α, 0 ≤ idxW p l → ∃ (j : Nat) (hj : j < l.length), idxW p l = j ∧ p l[j] = true ∧ ∀ x ∈ l.take j, p x = false
  | [], h => by simp [idxW] at h
  | x :: l, h => by
    by_cases hx : p x = true
    · exact ⟨0, by simp, by simp [idxW, hx], hx, by simp⟩
    · have hx' : p x = false := by simpa using hx
      have hge := idxW_ge p l
      have h0 : 0 ≤ idxW p l := by
        rw [idxW, if_neg hx] at h
        split at h <;> omega
      obtain ⟨j, hj, e1, e2, e3⟩ := idxW_sp p l h0
      refine ⟨j + 1, by simpa using hj, ?_, by simpa using e2, ?_⟩
      · rw [idxW, if_neg hx, if_neg (by omega), e1]; rfl
      · intro y hy
        rw [List.take_succ_cons, List.mem_cons] at hy
        rcases hy with rfl | hy
        · exact hx'
        · exact e3 y hy
theorem idx_none {p : Pl} {l : List Pl} (h : idxP p l = -1) : dropP l p = l := by
  have h1 := idxW_any (eqP p) l
  have h2 : l.any (eqP p) = false := by
    rw [← h1, decide_eq_false]
    have h : idxW (eqP p) l = -1 := h
    omega
  refine drop_none fun x hx => ?_
  rw [List.any_eq_false] at h2
  simpa using h2 x hx
theorem keep_step {p : Pl} {l : List Pl} {i : Nat} (hi : i < l.length) : keepP p l (i + 1) = if eqP p (nthPl l i) = true then keepP p l i else keepP p l i ++ [nthPl l i] := by
  unfold keepP dropP
  rw [List.take_succ_eq_append_getElem hi, List.filter_append, nthPl_at hi]
  by_cases h : l[i] = p
  · rw [if_pos (by simp [eqP, h])]; simp [h]
  · rw [if_neg (by simp [eqP, h])]; simp [h]
theorem idx_some {p : Pl} {l : List Pl} (h : ¬ idxP p l = -1) : ∃ j : Nat, idxP p l = j ∧ j < l.length ∧ keepP p l (j + 1) = l.take j := by
  have h0 := (idxW_ge (eqP p) l).1
  obtain ⟨j, hj, e1, e2, e3⟩ := idxW_sp (eqP p) l (by have h : ¬ idxW (eqP p) l = -1 := h; omega)
  refine ⟨j, e1, hj, ?_⟩
  rw [keep_step hj, nthPl_at hj, if_pos e2]
  exact drop_none e3
theorem kN_le {p : Pl} {l : List Pl} (i : Nat) : kN p l i ≤ i := by
  have h1 : kN p l i ≤ (l.take i).length := List.length_filter_le _ _
  rw [List.length_take] at h1
  omega
theorem dG_nth {p : Pl} {l : List Pl} (i q : Nat) : nthPl (dG p l i) q = if q < kN p l i then nthPl (keepP p l i) q else nthPl l q := by
  rw [nthPl_get, nthPl_get, nthPl_get, dG]
  split
  · rename_i h
    rw [List.getElem?_append_left h]
  · rename_i h
    have h : (keepP p l i).length ≤ q := by
      have : ¬ q < (keepP p l i).length := h
      omega
    rw [List.getElem?_append_right h, List.getElem?_drop]
    unfold kN
    rw [show (keepP p l i).length + (q - (keepP p l i).length) = q by omega]
theorem dG_at {p : Pl} {l : List Pl} (i : Nat) : nthPl (dG p l i) i = nthPl l i := by
  have := kN_le (p := p) (l := l) i
  rw [dG_nth, if_neg (by omega)]
theorem dG_first {p : Pl} {l : List Pl} {j : Nat} (hj : j < l.length) (h : keepP p l (j + 1) = l.take j) : kN p l (j + 1) = j ∧ dG p l (j + 1) = l := by
  have hk : kN p l (j + 1) = j := by
    rw [kN, h, List.length_take]; omega
  refine ⟨hk, ?_⟩
  rw [dG, h, hk, List.take_append_drop]
theorem dG_skip {p : Pl} {l : List Pl} {i : Nat} (hi : i < l.length) (h : eqP p (nthPl l i) = true) : kN p l (i + 1) = kN p l i ∧ dG p l (i + 1) = dG p l i := by
  have e : keepP p l (i + 1) = keepP p l i := by rw [keep_step hi, if_pos h]
  have e2 : kN p l (i + 1) = kN p l i := by rw [kN, e]; rfl
  exact ⟨e2, by rw [dG, e, e2]; rfl⟩
theorem dG_keep {p : Pl} {l : List Pl} {i : Nat} (hi : i < l.length) (h : eqP p (nthPl l i) = false) : kN p l (i + 1) = kN p l i + 1 ∧ ∀ q, nthPl (dG p l (i + 1)) q = if q = kN p l i then nthPl l i else nthPl (dG p l i) q := by
  have e : keepP p l (i + 1) = keepP p l i ++ [nthPl l i] := by rw [keep_step hi, if_neg (by rw [h]; decide)]
  have e2 : kN p l (i + 1) = kN p l i + 1 := by rw [kN, e, List.length_append]; rfl
  refine ⟨e2, fun q => ?_⟩
  rw [dG_nth, dG_nth, e2, e, nthPl_get (keepP p l i ++ [nthPl l i])]
  by_cases h1 : q < kN p l i
  · rw [if_pos (by omega), if_neg (by omega), if_pos h1, List.getElem?_append_left h1, nthPl_get]
  · by_cases h2 : q = kN p l i
    · rw [if_pos (by omega), if_pos h2, List.getElem?_append_right (by unfold kN at h2; omega), show q - (keepP p l i).length = 0 by unfold kN at h2; omega]
      rfl
    · rw [if_neg (by omega), if_neg h2, if_neg h1]
theorem dG_end {p : Pl} {l : List Pl} {i : Nat} (hi : i = l.length) : kN p l i = dN p l ∧ ∀ q, nthPl (clrL p l) q = if q < dN p l then nthPl (dG p l i) q else pl0 := by
  subst hi
  have e : keepP p l l.length = dropP l p := by rw [keepP, List.take_length]
  have e2 : kN p l l.length = dN p l := by rw [kN, e]; rfl
  refine ⟨e2, fun q => ?_⟩
  rw [dG_nth, e2, e, nthPl_get, clrL]
  split
  · rename_i h
    rw [List.getElem?_append_left h, nthPl_get]
  · rename_i h
    have h' : (dropP l p).length ≤ q := by
      have : ¬ q < (dropP l p).length := h
      omega
    rw [List.getElem?_append_right h', List.getElem?_replicate]
    split <;> rfl
theorem clr_none {p : Pl} {l : List Pl} (h : idxP p l = -1) : clrL p l = l ∧ dN p l = l.length := by
  have e := idx_none h
  have e2 : dN p l = l.length := by rw [dN, e]
  refine ⟨?_, e2⟩
  rw [clrL, e2, e, Nat.sub_self]
  simp
def delM (L : Seal) : EntM := (96, fun raw ob => match raw with
  | [.sl a 5 0 n, .fn g [] [.ref k 0]] => match nbeq g 98, ob a, ob k with
    | true, some (.row _ _ m get), some (.box _ [.int .u8 a1, .int .u8 b1, .int .u8 c1, .int .u8 d1, .int .u16 q1]) => some ⟨[.sl 500000 5 0 n, .fn 98 [] [.ref 500001 0]], [(500000, .row 36 5 n get), (500001, .box 36 [.int .u8 a1, .int .u8 b1, .int .u8 c1, .int .u8 d1, .int .u16 q1])], L okWPl (.lst 5 n get) ∧ L upN n, .sl 500000 5 0 (L2 L dN (mkPl L a1 b1 c1 d1 q1) (L rdWPl (.lst 5 n get))), [(500000, .row 36 5 n (fun i => plC L (L (L nthPl (L (L clrL (mkPl L a1 b1 c1 d1 q1)) (L rdWPl (.lst 5 n get)))) i))), (500001, .box 36 [.int .u8 a1, .int .u8 b1, .int .u8 c1, .int .u8 d1, .int .u16 q1])]⟩
    | _, _, _ => none
  | _ => none)
def delA (L : Seal) (p : Pl) (l : List Pl) (n : Nat) : Nat → St → Option Ann := fun id st => match id with
  | 0 => some ⟨Nat, fun i => [(6, .int .i64 (L natI i)), (5, .int .i64 (L natI (L (L (L kN p) l) i)))], fun i => [(500000, .row 36 5 n (fun q => plC L (L (L nthPl (L (L (L dG p) l) i)) q)))], [0, 1], [500001], fun i => L (L (L dOk p) l) i, fun i => L2 L toN l i⟩
  | _ => none
theorem wrap1 {z : Int} {j : Nat} (h : z = (j : Int)) (hj : j ≤ 1000000) : (z + 1 + 9223372036854775808) % 18446744073709551616 - 9223372036854775808 = ((j + 1 : Nat) : Int) := by omega
theorem overPl (q : Nat) (x : Pl) (f : Nat → Pl) (i j : Nat) (h : j < 5) : over std q 0 5 [.int .u8 x.a, .int .u8 x.b, .int .u8 x.c, .int .u8 x.d, .int .u16 x.p] (fun i => plC std (f i)) i j = plC std (if i = q then x else f i) j := by
  rw [over_get, if_pos (by omega)]
  by_cases e : i = q
  · subst e
    rw [if_pos rfl, beq_same]
    match j, h with
    | 0, _ => rfl
    | 1, _ => rfl
    | 2, _ => rfl
    | 3, _ => rfl
    | 4, _ => rfl
  · rw [if_neg e, beq_no e]
    match j, h with
    | 0, _ => rfl
    | 1, _ => rfl
    | 2, _ => rfl
    | 3, _ => rfl
    | 4, _ => rfl
theorem selPl (k n : Nat) (x : Pl) (i j : Nat) (h : j < 5) (hk : k ≤ n) (hi : i < n) : selX (segCp k (n - k) i) (lget AV.dead [.int .u8 0, .int .u8 0, .int .u8 0, .int .u8 0, .int .u16 0] j) (plC std x j) = plC std (if i < k then x else pl0) j := by
  rw [selX_if]
  by_cases e : i < k
  · rw [if_pos e, if_neg (by rw [segCp_t]; omega)]
  · rw [if_neg e, if_pos (by rw [segCp_t]; omega)]
    match j, h with
    | 0, _ => rfl
    | 1, _ => rfl
    | 2, _ => rfl
    | 3, _ => rfl
    | 4, _ => rfl
theorem delrun {p : Pl} {l : List Pl} {n : Nat} (hz : n ≤ 1000000) (hlw : n = l.length) : MCalls Tryz.prog 96 (dargs n) [rowO std n l, plO std p] (.sl 500000 5 0 (dN p l)) [rowO std n (clrL p l), plO std p] := by
  refine mcalls_L (T := tt) (S := fun L => sumOfM [] [takeP_m L, idxM L]) (lo := fun L => delA L p l n) (lb := noA) 5 (fn := Tryz.f96) (xs := fun L => dargs n) (rts := fun L => [.sl 500000 5 0 (L2 L dN p l)]) (O := fun L => [rowO L n l, plO L p]) (O1 := fun L => [rowO L n (L2 L clrL p l), plO L p]) rfl rfl (by kernel_rfl) (by kernel_rfl) (by kernel_rfl) tt_ok (sumOfM_ok trivial ⟨takeP_good, idxM_good, trivial⟩) (by kernel_rfl) ?_
  intro L P' Q' hL hP hQ
  have hG : ∀ (y : List Pl), n = lenW y → L rdWPl (.lst 5 n (fun i => plC L (L (L nthPl y) i))) = y := by subst hL; intro y hy; subst hy; exact rdwPl y
  have hO : ∀ (y : List Pl), n = lenW y → L okWPl (.lst 5 n (fun i => plC L (L (L nthPl y) i))) := by subst hL; intro y hy; subst hy; exact okwPl y
  have hE2 : ∀ y : Pl, mkPl L (L Pl.a y) (L Pl.b y) (L Pl.c y) (L Pl.d y) (L Pl.p y) = y := by subst hL; intro y; rfl
  have hE : ∀ y : Pl, L (L (L (L (L Pl.mk (L Pl.a y)) (L Pl.b y)) (L Pl.c y)) (L Pl.d y)) (L Pl.p y) = y := by subst hL; intro y; rfl
  (cbv; try simp only [sat_need, sat_must, sat_ite, sat_done, sat_yes, sat_ex, sat_all, sat_sup, sat_and, sat_fail, true_and, and_true])
  simp only [hG l hlw, hO l hlw, hE, hE2]
  refine ⟨fun _ _ _ _ => trivial, ⟨trivial, ?_⟩, fun h1 => ?_, fun h1 => ?_⟩
  · subst hL; exact hz
  · (subst hL; subst hQ; simp only [L2, L3, std] at *; try simp only [sySet, reduceCtorEq, forall_const, Int.reduceToNat, Int.reduceAdd, Int.reduceSub, Int.cast_ofNat_Int, Int.toNat_natCast, Nat.le_eq, Nat.sub_eq, ne_eq, Decidable.not_not, implies_true, true_and, and_true, wadd, wsub, wmul, decide_eq_true_eq, decide_eq_false_iff_not, Nat.succ_eq_add_one, imp_false, not_false_eq_true, not_true_eq_false, false_imp_iff, true_imp_iff] at *)
    obtain ⟨k1, k2⟩ := clr_none h1
    rw [k1, k2]
    exact ⟨fun _ _ _ _ => rfl, hlw⟩
  · have h1' : ¬ idxP p l = -1 := by
      have h := h1
      rw [hL] at h
      simpa [ieq, std] using h
    clear h1
    obtain ⟨j, hj, hjl, hjk⟩ := idx_some h1'
    obtain ⟨k1, k2⟩ := dG_first hjl hjk
    refine ⟨⟨j + 1, ?_⟩, fun i hi => ?_⟩
    · (cbv; try simp only [sat_need, sat_must, sat_ite, sat_done, sat_yes, sat_ex, sat_all, sat_sup, sat_and, sat_fail, true_and, and_true])
      (subst hL; subst hQ; simp only [L2, L3, std] at *; try simp only [sySet, reduceCtorEq, forall_const, Int.reduceToNat, Int.reduceAdd, Int.reduceSub, Int.cast_ofNat_Int, Int.toNat_natCast, Nat.le_eq, Nat.sub_eq, ne_eq, Decidable.not_not, implies_true, true_and, and_true, wadd, wsub, wmul, decide_eq_true_eq, decide_eq_false_iff_not, Nat.succ_eq_add_one, imp_false, not_false_eq_true, not_true_eq_false, false_imp_iff, true_imp_iff] at *)
      rw [k1, k2]
      exact ⟨fun _ _ _ _ => rfl, hj, wrap1 hj (by omega), by show j + 1 ≤ _; omega⟩
    · have hi2 : i ≤ l.length := by
        have h := hi
        rw [hL] at h
        exact h
      clear hi
      have hkn := kN_le (p := p) (l := l) i
      (cbv; try simp only [sat_need, sat_must, sat_ite, sat_done, sat_yes, sat_ex, sat_all, sat_sup, sat_and, sat_fail, true_and, and_true])
      simp only [hE, hE2]
      refine ⟨fun hlt => ⟨?_, fun hb => ⟨?_, ⟨i + 1, ?_⟩⟩, fun hb => ⟨i + 1, ?_⟩⟩, fun hge => ⟨?_, ?_, ?_, ?_⟩⟩
      · (subst hL; subst hQ; simp only [L2, L3, std] at *; try simp only [sySet, reduceCtorEq, forall_const, Int.reduceToNat, Int.reduceAdd, Int.reduceSub, Int.cast_ofNat_Int, Int.toNat_natCast, Nat.le_eq, Nat.sub_eq, ne_eq, Decidable.not_not, implies_true, true_and, and_true, wadd, wsub, wmul, decide_eq_true_eq, decide_eq_false_iff_not, Nat.succ_eq_add_one, imp_false, not_false_eq_true, not_true_eq_false, false_imp_iff, true_imp_iff] at *)
        omega
      · (subst hL; subst hQ; simp only [L2, L3, std] at *; try simp only [sySet, reduceCtorEq, forall_const, Int.reduceToNat, Int.reduceAdd, Int.reduceSub, Int.cast_ofNat_Int, Int.toNat_natCast, Nat.le_eq, Nat.sub_eq, ne_eq, Decidable.not_not, implies_true, true_and, and_true, wadd, wsub, wmul, decide_eq_true_eq, decide_eq_false_iff_not, Nat.succ_eq_add_one, imp_false, not_false_eq_true, not_true_eq_false, false_imp_iff, true_imp_iff] at *)
        omega
      · (cbv; try simp only [sat_need, sat_must, sat_ite, sat_done, sat_yes, sat_ex, sat_all, sat_sup, sat_and, sat_fail, true_and, and_true])
        try simp only [hE, hE2]
        (subst hL; subst hQ; simp only [L2, L3, std] at *; try simp only [sySet, reduceCtorEq, forall_const, Int.reduceToNat, Int.reduceAdd, Int.reduceSub, Int.cast_ofNat_Int, Int.toNat_natCast, Nat.le_eq, Nat.sub_eq, ne_eq, Decidable.not_not, implies_true, true_and, and_true, wadd, wsub, wmul, decide_eq_true_eq, decide_eq_false_iff_not, Nat.succ_eq_add_one, imp_false, not_false_eq_true, not_true_eq_false, false_imp_iff, true_imp_iff] at *)
        have hl : i < l.length := by omega
        have hb2 : eqP p (nthPl l i) = false := by rw [← dG_at (p := p)]; exact hb
        obtain ⟨m1, m2⟩ := dG_keep hl hb2
        refine ⟨fun q j hq hj => ?_, ?_, wrap1 rfl (by omega), by show i + 1 ≤ _; omega, by show l.length - (i + 1) + 1 ≤ l.length - i; omega⟩
        · rw [overPl _ _ _ _ _ hj, m2, dG_at]
        · rw [m1]
          exact wrap1 rfl (by omega)
      · (cbv; try simp only [sat_need, sat_must, sat_ite, sat_done, sat_yes, sat_ex, sat_all, sat_sup, sat_and, sat_fail, true_and, and_true])
        try simp only [hE, hE2]
        (subst hL; subst hQ; simp only [L2, L3, std] at *; try simp only [sySet, reduceCtorEq, forall_const, Int.reduceToNat, Int.reduceAdd, Int.reduceSub, Int.cast_ofNat_Int, Int.toNat_natCast, Nat.le_eq, Nat.sub_eq, ne_eq, Decidable.not_not, implies_true, true_and, and_true, wadd, wsub, wmul, decide_eq_true_eq, decide_eq_false_iff_not, Nat.succ_eq_add_one, imp_false, not_false_eq_true, not_true_eq_false, false_imp_iff, true_imp_iff] at *)
        have hl : i < l.length := by omega
        have hb2 : eqP p (nthPl l i) = true := by rw [← dG_at (p := p)]; exact hb
        obtain ⟨m1, m2⟩ := dG_skip hl hb2
        rw [m1, m2]
        exact ⟨fun _ _ _ _ => rfl, rfl, wrap1 rfl (by omega), by show i + 1 ≤ _; omega, by show l.length - (i + 1) + 1 ≤ l.length - i; omega⟩
      · (subst hL; subst hQ; simp only [L2, L3, std] at *; try simp only [sySet, reduceCtorEq, forall_const, Int.reduceToNat, Int.reduceAdd, Int.reduceSub, Int.cast_ofNat_Int, Int.toNat_natCast, Nat.le_eq, Nat.sub_eq, ne_eq, Decidable.not_not, implies_true, true_and, and_true, wadd, wsub, wmul, decide_eq_true_eq, decide_eq_false_iff_not, Nat.succ_eq_add_one, imp_false, not_false_eq_true, not_true_eq_false, false_imp_iff, true_imp_iff] at *)
        omega
      · (subst hL; subst hQ; simp only [L2, L3, std] at *; try simp only [sySet, reduceCtorEq, forall_const, Int.reduceToNat, Int.reduceAdd, Int.reduceSub, Int.cast_ofNat_Int, Int.toNat_natCast, Nat.le_eq, Nat.sub_eq, ne_eq, Decidable.not_not, implies_true, true_and, and_true, wadd, wsub, wmul, decide_eq_true_eq, decide_eq_false_iff_not, Nat.succ_eq_add_one, imp_false, not_false_eq_true, not_true_eq_false, false_imp_iff, true_imp_iff] at *)
        omega
      · (subst hL; subst hQ; simp only [L2, L3, std] at *; try simp only [sySet, reduceCtorEq, forall_const, Int.reduceToNat, Int.reduceAdd, Int.reduceSub, Int.cast_ofNat_Int, Int.toNat_natCast, Nat.le_eq, Nat.sub_eq, ne_eq, Decidable.not_not, implies_true, true_and, and_true, wadd, wsub, wmul, decide_eq_true_eq, decide_eq_false_iff_not, Nat.succ_eq_add_one, imp_false, not_false_eq_true, not_true_eq_false, false_imp_iff, true_imp_iff] at *)
        obtain ⟨m1, m2⟩ := dG_end (p := p) (l := l) (i := i) (by omega)
        intro q j hq hj
        rw [selPl _ _ _ _ _ hj (by omega) hq, m2, m1]
      · (subst hL; subst hQ; simp only [L2, L3, std] at *; try simp only [sySet, reduceCtorEq, forall_const, Int.reduceToNat, Int.reduceAdd, Int.reduceSub, Int.cast_ofNat_Int, Int.toNat_natCast, Nat.le_eq, Nat.sub_eq, ne_eq, Decidable.not_not, implies_true, true_and, and_true, wadd, wsub, wmul, decide_eq_true_eq, decide_eq_false_iff_not, Nat.succ_eq_add_one, imp_false, not_false_eq_true, not_true_eq_false, false_imp_iff, true_imp_iff] at *)
        exact (dG_end (by omega)).1
theorem delM_good : GoodM Tryz.prog (delM std) := by
  intro raw ob T h hp
  unfold delM at h
  simp only at h
  split at h
  rotate_left
  · cases h
  rename_i a n g k
  split at h
  rotate_left
  · cases h
  rename_i t m get t1 a1 b1 c1 d1 q1 hg _ _
  obtain rfl : g = 98 := of_decide_eq_true hg
  cases h
  obtain ⟨ho, hn⟩ := hp
  have ho : okWPl (.lst 5 n get) := ho
  have hn : n ≤ 1000000 := hn
  have hl : (rdWPl (.lst 5 n get)).length = n := rdW_len _ _ _ _
  refine mc_row plV_ok ho ?_
  exact delrun (p := ⟨a1, b1, c1, d1, q1⟩) (l := rdWPl (.lst 5 n get)) hn hl.symm
/-! ### The Giver's Take -/
def gtQ (g : Gv) (s : List UInt8) : Pl := rdQ s 17 g.e
def gtE (g : Gv) (s : List UInt8) : Int := rdE s 17 g.e
def gtG (g : Gv) (s : List UInt8) : Gv := if gtE g s = 0 then ⟨g.e, dropP g.l (gtQ g s)⟩ else g
def gtake_s (L : Seal) : Ent1 := (37, fun xs => match xs with
  | [x, .str s] => some (L okGGv x ∧ L gvOk (L rdGGv x) ∧ L2 L upto 900000 s, .tup [gvA L (L2 L gtG (L rdGGv x) s), .int .i64 (L2 L gtE (L rdGGv x) s)])
  | _ => none)
theorem gtake_good : Good Tryz.prog (gtake_s std) := by
  intro xs p r h hp
  dsimp only [gtake_s] at h ⊢
  split at h <;> cases h
  try simp only [L2, L3, std] at hp ⊢
  rename_i x s
  obtain ⟨ho, hg, hs⟩ := hp
  refine ac_g gvV_ok ho ?_
  have hg : gvOk (rdGGv x) := hg
  have hs : s.length ≤ 900000 := hs
  show ACalls _ _ (gvA std (rdGGv x) :: _) (.tup [gvA std (gtG (rdGGv x) s), .int .i64 (gtE (rdGGv x) s)])
  generalize rdGGv x = g at hg ⊢
  obtain ⟨he, hok, hz⟩ := hg
  refine acalls_L' (T := tt) (S := fun L => sumOfM [hrd_s L] [cloneM 97 36 5 L, delM L]) (lo := fun L => noA L) (lb := noA) 5 (fn := Tryz.f37) (xs := fun L => [gvA L g, .str s]) rfl rfl (by kernel_rfl) (by kernel_rfl) rfl tt_ok (sumOfM_ok ⟨hrd_good, trivial⟩ ⟨clonePl_good, delM_good, trivial⟩) (by kernel_rfl) ?_
  intro L P' Q' hL hP hQ
  have hG : ∀ y : List Pl, L rdWPl (.lst 5 (L lenW y) (fun i => plC L (L (L nthPl y) i))) = y := by subst hL; exact fun y => rdwPl y
  have hO : ∀ y : List Pl, L okWPl (.lst 5 (L lenW y) (fun i => plC L (L (L nthPl y) i))) := by subst hL; exact fun y => okwPl y
  have hE : ∀ y : Pl, L (L (L (L (L Pl.mk (L Pl.a y)) (L Pl.b y)) (L Pl.c y)) (L Pl.d y)) (L Pl.p y) = y := by subst hL; intro y; rfl
  have hE2 : ∀ y : Pl, mkPl L (L Pl.a y) (L Pl.b y) (L Pl.c y) (L Pl.d y) (L Pl.p y) = y := by subst hL; intro y; rfl
  (cbv; try simp only [sat_need, sat_must, sat_ite, sat_done, sat_yes, sat_ex, sat_all, sat_sup, sat_and, sat_fail, true_and, and_true])
  simp only [hG, hE, hE2]
  refine ⟨?_, fun h1 => ?_, fun h1 => ⟨fun _ _ _ _ => trivial, ?_, fun _ _ _ _ => trivial, ⟨hO _, ?_⟩, ?_⟩⟩
  · (subst hL; subst hQ; simp only [L2, L3, std] at *; try simp only [sySet, reduceCtorEq, forall_const, Int.reduceToNat, Int.reduceAdd, Int.reduceSub, Int.cast_ofNat_Int, Int.toNat_natCast, Nat.le_eq, Nat.sub_eq, ne_eq, Decidable.not_not, implies_true, true_and, and_true, wadd, wsub, wmul, decide_eq_true_eq, decide_eq_false_iff_not, Nat.succ_eq_add_one, imp_false, not_false_eq_true, not_true_eq_false, false_imp_iff, true_imp_iff] at *)
    exact hs
  · (subst hL; subst hQ; simp only [L2, L3, std] at *; try simp only [sySet, reduceCtorEq, forall_const, Int.reduceToNat, Int.reduceAdd, Int.reduceSub, Int.cast_ofNat_Int, Int.toNat_natCast, Nat.le_eq, Nat.sub_eq, ne_eq, Decidable.not_not, implies_true, true_and, and_true, wadd, wsub, wmul, decide_eq_true_eq, decide_eq_false_iff_not, Nat.succ_eq_add_one, imp_false, not_false_eq_true, not_true_eq_false, false_imp_iff, true_imp_iff] at *)
    have e : gtG g s = g := if_neg h1
    exact ⟨gv_fit e.symm, rfl⟩
  · subst hL; exact hz
  · subst hL; exact hz
  · (subst hL; subst hQ; simp only [L2, L3, std] at *; try simp only [sySet, reduceCtorEq, forall_const, Int.reduceToNat, Int.reduceAdd, Int.reduceSub, Int.cast_ofNat_Int, Int.toNat_natCast, Nat.le_eq, Nat.sub_eq, ne_eq, Decidable.not_not, implies_true, true_and, and_true, wadd, wsub, wmul, decide_eq_true_eq, decide_eq_false_iff_not, Nat.succ_eq_add_one, imp_false, not_false_eq_true, not_true_eq_false, false_imp_iff, true_imp_iff] at *)
    have e : gtG g s = ⟨g.e, dropP g.l (rdQ s 17 g.e)⟩ := if_pos h1
    rw [e]
    refine ⟨?_, h1.symm⟩
    show fits1 (.agg [.int .u64 g.e, .lst 5 (lenW (dropP g.l (rdQ s 17 g.e))) (fun i => plC std (nthPl (dropP g.l (rdQ s 17 g.e)) i))]) _
    rw [fits1_aggi, fits1_aggl, fits1_agg0]
    refine ⟨rfl, ⟨rfl, fun i j hi hj => ?_⟩, trivial⟩
    have hi : i < (dropP g.l (rdQ s 17 g.e)).length := hi
    rw [nthPl_get, nthPl_get (dropP g.l (rdQ s 17 g.e)), clrL, List.getElem?_append_left hi]
end Sy
end Go.Proofs.YtckbbcjbbmgmoaaGreatDoor
namespace Go.Proofs.YtckbbcjbbmgmoaaGreatDoor
namespace Sy
open Go Go.RowKit
set_option maxRecDepth 100000
set_option linter.unusedSimpArgs false
set_option linter.unusedVariables false
/-! ### Has -/
/-! ### Put -/
def putL (l : List Pl) (p : Pl) : List Pl := insP p l
end Sy
end Go.Proofs.YtckbbcjbbmgmoaaGreatDoor
namespace Go.Proofs.YtckbbcjbbmgmoaaGreatDoor
namespace Sy
open Go Go.RowKit
set_option maxRecDepth 100000
set_option linter.unusedSimpArgs false
set_option linter.unusedVariables false
/-! ### Drop -/
/-! ### Give -/
/-! ### places, same -/
/-! ### Token, Taken -/
end Sy
end Go.Proofs.YtckbbcjbbmgmoaaGreatDoor
namespace Go.Proofs.YtckbbcjbbmgmoaaGreatDoor
namespace Sy
open Go Go.RowKit
set_option maxRecDepth 100000
set_option linter.unusedSimpArgs false
set_option linter.unusedVariables false

theorem awake08_ac : ACalls Tryz.prog 184 [] (.bool true) := by
  refine acalls_L (T := tt) (S := fun L => sumOf [by_s L, tru 210, size_s L]) (lo := noA) (lb := noA) 5 (fn := Tryz.f184) rfl rfl (by kernel_rfl) (by kernel_rfl) rfl tt_ok (sumOf_ok ⟨by_good, tru_good Awake02_ac, size_good, trivial⟩) (by kernel_rfl) ?_
  (intro L P1 Q1 hL hP hQ; cbv; subst hL; simp only [L2, L3, std, sat_need, sat_must, sat_ite, sat_done, sat_yes, sat_ex, sat_all, sat_sup, sat_and, sat_fail]; subst hQ)
  (simp only [sySet, reduceCtorEq, forall_const, Int.reduceToNat, Int.reduceAdd, Int.reduceSub, Int.cast_ofNat_Int, Int.toNat_natCast, Nat.le_eq, Nat.sub_eq, ne_eq, Decidable.not_not, implies_true, true_and, and_true, wadd, wsub, wmul, decide_eq_true_eq, decide_eq_false_iff_not, Nat.succ_eq_add_one, imp_false, not_false_eq_true, not_true_eq_false, false_imp_iff, true_imp_iff])
  have e : byE 1 [] = 0 := rfl
  have t : byT 1 0 [] = markL (headT 1 0 []) := rfl
  rw [t, markL_length, headT_length]
  simp [byOk, e]
end Sy
end Go.Proofs.YtckbbcjbbmgmoaaGreatDoor
namespace Go.Proofs.YtckbbcjbbmgmoaaGreatDoor
namespace Sy
open Go Go.RowKit
set_option maxRecDepth 100000
set_option linter.unusedSimpArgs false
set_option linter.unusedVariables false
/-! ### The pipe, empty -/
def phas_s : Ent1 := (100, fun xs => match xs with
  | [.agg [.nils], .int .i64 n] => some (True, .bool false)
  | _ => none)
theorem phas_good : Good Tryz.prog phas_s := by
  intro xs p r h hp
  dsimp only [phas_s] at h ⊢
  split at h <;> cases h
  try simp only [L2, L3, std] at hp ⊢
  rename_i n
  refine acalls_L (T := tt) (S := noS) (lo := noA) (lb := noA) 5 (fn := Tryz.f100) rfl rfl (by kernel_rfl) (by kernel_rfl) rfl tt_ok (noS_ok _) (by kernel_rfl) ?_
  (intro L P1 Q1 hL hP hQ; cbv; subst hL; simp only [L2, L3, std, sat_need, sat_must, sat_ite, sat_done, sat_yes, sat_ex, sat_all, sat_sup, sat_and, sat_fail]; subst hQ)
  (simp only [sySet, reduceCtorEq, forall_const, Int.reduceToNat, Int.reduceAdd, Int.reduceSub, Int.cast_ofNat_Int, Int.toNat_natCast, Nat.le_eq, Nat.sub_eq, ne_eq, Decidable.not_not, implies_true, true_and, and_true, wadd, wsub, wmul, decide_eq_true_eq, decide_eq_false_iff_not, Nat.succ_eq_add_one, imp_false, not_false_eq_true, not_true_eq_false, false_imp_iff, true_imp_iff])
  exact fun h => h
def pdel_s : Ent1 := (41, fun xs => match xs with
  | [.agg [.nils], .int .i64 n] => some (True, .tup [.agg [.nils], .agg [.int .u64 0, .str []], .int .i64 12])
  | _ => none)
theorem pdel_good : Good Tryz.prog pdel_s := by
  intro xs p r h hp
  dsimp only [pdel_s] at h ⊢
  split at h <;> cases h
  try simp only [L2, L3, std] at hp ⊢
  rename_i n
  refine acalls_L (T := tt) (S := fun L => sumOf [phas_s]) (lo := noA) (lb := noA) 5 (fn := Tryz.f41) rfl rfl (by kernel_rfl) (by kernel_rfl) rfl tt_ok (sumOf_ok ⟨phas_good, trivial⟩) (by kernel_rfl) ?_
  (intro L P1 Q1 hL hP hQ; cbv; subst hL; simp only [L2, L3, std, sat_need, sat_must, sat_ite, sat_done, sat_yes, sat_ex, sat_all, sat_sup, sat_and, sat_fail]; subst hQ)
  (simp only [sySet, reduceCtorEq, forall_const, Int.reduceToNat, Int.reduceAdd, Int.reduceSub, Int.cast_ofNat_Int, Int.toNat_natCast, Nat.le_eq, Nat.sub_eq, ne_eq, Decidable.not_not, implies_true, true_and, and_true, wadd, wsub, wmul, decide_eq_true_eq, decide_eq_false_iff_not, Nat.succ_eq_add_one, imp_false, not_false_eq_true, not_true_eq_false, false_imp_iff, true_imp_iff])
  simp [fits1, meetA, meetV, meetL, Meet.add, andL]
def plose_s : Ent1 := (46, fun xs => match xs with
  | [.agg [.nils], .int .i64 n] => some (True, .tup [.agg [.nils], .int .i64 12])
  | _ => none)
theorem plose_good : Good Tryz.prog plose_s := by
  intro xs p r h hp
  dsimp only [plose_s] at h ⊢
  split at h <;> cases h
  try simp only [L2, L3, std] at hp ⊢
  rename_i n
  refine acalls_L (T := tt) (S := fun L => sumOf [pdel_s]) (lo := noA) (lb := noA) 5 (fn := Tryz.f46) rfl rfl (by kernel_rfl) (by kernel_rfl) rfl tt_ok (sumOf_ok ⟨pdel_good, trivial⟩) (by kernel_rfl) ?_
  (intro L P1 Q1 hL hP hQ; cbv; subst hL; simp only [L2, L3, std, sat_need, sat_must, sat_ite, sat_done, sat_yes, sat_ex, sat_all, sat_sup, sat_and, sat_fail]; subst hQ)
  (simp only [sySet, reduceCtorEq, forall_const, Int.reduceToNat, Int.reduceAdd, Int.reduceSub, Int.cast_ofNat_Int, Int.toNat_natCast, Nat.le_eq, Nat.sub_eq, ne_eq, Decidable.not_not, implies_true, true_and, and_true, wadd, wsub, wmul, decide_eq_true_eq, decide_eq_false_iff_not, Nat.succ_eq_add_one, imp_false, not_false_eq_true, not_true_eq_false, false_imp_iff, true_imp_iff])
  simp [fits1, meetA, meetV, meetL, Meet.add, andL]
theorem aggnil_R {h : Array Obj} {D : Nat → Prop} {μ : Mu} {v : Value} (sz : Nat) (g : Nat → Nat → AV) (r : R h D μ (.agg [.nils]) v) : R h D μ (.agg [.lst sz 0 g]) v := by
  obtain ⟨us, rfl, o1, s1, hr⟩ := r.inv_agg
  refine .agg _ _ s1 o1 fun i y w hy hw => ?_
  cases i with
  | zero =>
    cases hy
    have := hr 0 .nils w rfl hw
    cases this
    exact .lst0 _ _ none 0 (fun _ => rfl)
  | succ i => simp at hy
theorem ac_aggnil {P : Program} {f : FuncId} {r : AV} {q : List AV} (sz : Nat) (g : Nat → Nat → AV) (h : ACalls P f (.agg [.lst sz 0 g] :: q) r) : ACalls P f (.agg [.nils] :: q) r :=
  ac_args' (fun h D vs hr => rl_1 (fun v => aggnil_R sz g) hr) h
theorem fits_agg (x y : List AV) : fits (.agg x) (.agg y) = fits1 (.agg x) (.agg y) := by unfold fits; rfl
def psend_s : Ent1 := (42, fun xs => match xs with
  | [.agg [.nils], .int .u64 1, .str s] => some (True, .agg [.lst 2 1 (fun _ j => lget .dead [.int .u64 1, .str s] j)])
  | _ => none)
theorem psend_good : Good Tryz.prog psend_s := by
  intro xs p r h hp
  dsimp only [psend_s] at h ⊢
  split at h <;> cases h
  try simp only [L2, L3, std] at hp ⊢
  rename_i s
  refine ac_aggnil 2 (fun _ j => lget .dead [.int .u64 0, .str []] j) ?_
  refine acalls_L (T := tt) (S := noS) (lo := noA) (lb := noA) 5 (fn := Tryz.f42) rfl rfl (by kernel_rfl) (by kernel_rfl) rfl tt_ok (noS_ok _) (by kernel_rfl) ?_
  intro L P' Q' hL hP hQ
  (cbv; try simp only [sat_need, sat_must, sat_ite, sat_done, sat_yes, sat_ex, sat_all, sat_sup, sat_and, sat_fail, true_and, and_true])
  have hk : L (L imax (L (L (wsub .i64) (L natI (L (L Nat.add (L Int.toNat (L natI 0))) 1))) 64)) 0 = 0 := by subst hL; decide
  simp only [hk]
  subst hQ; subst hL
  refine ⟨by decide, by decide, by decide, ?_⟩
  rw [fits_agg, fits1_aggl, fits1_agg0]
  refine ⟨⟨rfl, fun i j hi hj => ?_⟩, trivial⟩
  obtain rfl : i = 0 := by omega
  match j, hj with
  | 0, _ => rfl
  | 1, _ => rfl
def plen_s : Ent1 := (44, fun xs => match xs with
  | [.agg [.lst 2 1 get]] => some (True, .int .i64 1)
  | _ => none)
theorem plen_good : Good Tryz.prog plen_s := by
  intro xs p r h hp
  dsimp only [plen_s] at h ⊢
  split at h <;> cases h
  try simp only [L2, L3, std] at hp ⊢
  rename_i get
  refine acalls_L (T := tt) (S := noS) (lo := noA) (lb := noA) 5 (fn := Tryz.f44) rfl rfl (by kernel_rfl) (by kernel_rfl) rfl tt_ok (noS_ok _) (by kernel_rfl) ?_
  (intro L P1 Q1 hL hP hQ; cbv; subst hL; simp only [L2, L3, std, sat_need, sat_must, sat_ite, sat_done, sat_yes, sat_ex, sat_all, sat_sup, sat_and, sat_fail]; subst hQ)
  rw [fits_int]; rfl
theorem awake25_ac : ACalls Tryz.prog 185 [] (.bool true) := by
  refine acalls_L (T := tt) (S := fun L => sumOf [plose_s, psend_s, plen_s]) (lo := noA) (lb := noA) 5 (fn := Tryz.f185) rfl rfl (by kernel_rfl) (by kernel_rfl) rfl tt_ok (sumOf_ok ⟨plose_good, psend_good, plen_good, trivial⟩) (by kernel_rfl) ?_
  (intro L P1 Q1 hL hP hQ; cbv; subst hL; simp only [L2, L3, std, sat_need, sat_must, sat_ite, sat_done, sat_yes, sat_ex, sat_all, sat_sup, sat_and, sat_fail]; subst hQ)
  (simp only [sySet, reduceCtorEq, forall_const, Int.reduceToNat, Int.reduceAdd, Int.reduceSub, Int.cast_ofNat_Int, Int.toNat_natCast, Nat.le_eq, Nat.sub_eq, ne_eq, Decidable.not_not, implies_true, true_and, and_true, wadd, wsub, wmul, decide_eq_true_eq, decide_eq_false_iff_not, Nat.succ_eq_add_one, imp_false, not_false_eq_true, not_true_eq_false, false_imp_iff, true_imp_iff])
theorem Awake25_ac : ACalls Tryz.prog 146 [] (.bool true) := by
  refine acalls_L (T := tt) (S := fun L => sumOf [tru 185]) (lo := noA) (lb := noA) 5 (fn := Tryz.f146) rfl rfl (by kernel_rfl) (by kernel_rfl) rfl tt_ok (sumOf_ok ⟨tru_good awake25_ac, trivial⟩) (by kernel_rfl) ?_
  (intro L P1 Q1 hL hP hQ; cbv; subst hL; simp only [L2, L3, std, sat_need, sat_must, sat_ite, sat_done, sat_yes, sat_ex, sat_all, sat_sup, sat_and, sat_fail]; subst hQ)
  (simp only [sySet, reduceCtorEq, forall_const, Int.reduceToNat, Int.reduceAdd, Int.reduceSub, Int.cast_ofNat_Int, Int.toNat_natCast, Nat.le_eq, Nat.sub_eq, ne_eq, Decidable.not_not, implies_true, true_and, and_true, wadd, wsub, wmul, decide_eq_true_eq, decide_eq_false_iff_not, Nat.succ_eq_add_one, imp_false, not_false_eq_true, not_true_eq_false, false_imp_iff, true_imp_iff])
theorem Awake08_ac : ACalls Tryz.prog 145 [] (.bool true) := by
  refine acalls_L (T := tt) (S := fun L => sumOf [tru 184]) (lo := noA) (lb := noA) 5 (fn := Tryz.f145) rfl rfl (by kernel_rfl) (by kernel_rfl) rfl tt_ok (sumOf_ok ⟨tru_good awake08_ac, trivial⟩) (by kernel_rfl) ?_
  (intro L P1 Q1 hL hP hQ; cbv; subst hL; simp only [L2, L3, std, sat_need, sat_must, sat_ite, sat_done, sat_yes, sat_ex, sat_all, sat_sup, sat_and, sat_fail]; subst hQ)
  (simp only [sySet, reduceCtorEq, forall_const, Int.reduceToNat, Int.reduceAdd, Int.reduceSub, Int.cast_ofNat_Int, Int.toNat_natCast, Nat.le_eq, Nat.sub_eq, ne_eq, Decidable.not_not, implies_true, true_and, and_true, wadd, wsub, wmul, decide_eq_true_eq, decide_eq_false_iff_not, Nat.succ_eq_add_one, imp_false, not_false_eq_true, not_true_eq_false, false_imp_iff, true_imp_iff])
/-! ### Chapter 26's -/
def aw26_s (L : Seal) : Sums := sumOf [give_s L, msgs_s L, ttake_s L, gtake_s L, done_s L, tru 47, tru 145, tru 146]
def p80 : Pl := ⟨0, 0, 0, 0, 80⟩
theorem p80_ok : plOk p80 := ⟨⟨by decide, by decide⟩, ⟨by decide, by decide⟩, ⟨by decide, by decide⟩, ⟨by decide, by decide⟩, by decide, by decide⟩
theorem p80_16 : rdE (hmT 16 3 p80) 16 3 = 0 ∧ rdQ (hmT 16 3 p80) 16 3 = p80 := by
  obtain ⟨h1, h2, h3, h4⟩ := hm_read (k := 16) (e := 3) (p := p80) (.inl rfl) (by decide) p80_ok (by decide)
  have e : rdE (hmT 16 3 p80) 16 3 = 0 := by rw [rdE, if_neg (by simp [h1]), if_neg (by simp [h2]), if_neg (by simp [h3])]
  exact ⟨e, by rw [rdQ, if_pos e, h4]⟩
theorem p80_17 : rdE (hmT 17 3 p80) 17 3 = 0 ∧ rdQ (hmT 17 3 p80) 17 3 = p80 := by
  obtain ⟨h1, h2, h3, h4⟩ := hm_read (k := 17) (e := 3) (p := p80) (.inr rfl) (by decide) p80_ok (by decide)
  have e : rdE (hmT 17 3 p80) 17 3 = 0 := by rw [rdE, if_neg (by simp [h1]), if_neg (by simp [h2]), if_neg (by simp [h3])]
  exact ⟨e, by rw [rdQ, if_pos e, h4]⟩
theorem gave80 : gaveL [p80] = [p80] := by decide
theorem msg80 : msgN ⟨3, [p80]⟩ 0 = hmT 16 3 p80 := rfl
theorem tk80 : tkE ⟨3, []⟩ (hmT 16 3 p80) = 0 ∧ tkP ⟨3, []⟩ (hmT 16 3 p80) = p80 ∧ tkS ⟨3, []⟩ (hmT 16 3 p80) = hmT 17 3 p80 := by
  obtain ⟨h1, h2⟩ := p80_16
  obtain ⟨k0, k1, k2, k3⟩ := tk_new (g := ⟨3, []⟩) (s := hmT 16 3 p80) h1 (by rw [h2]; rfl)
  exact ⟨k0, k2.trans h2, k3.trans (by rw [h2])⟩
theorem gt80 : gtE ⟨3, [p80]⟩ (hmT 17 3 p80) = 0 ∧ gtG ⟨3, [p80]⟩ (hmT 17 3 p80) = ⟨3, []⟩ := by
  obtain ⟨h1, h2⟩ := p80_17
  refine ⟨h1, ?_⟩
  rw [gtG, if_pos (show gtE ⟨3, [p80]⟩ (hmT 17 3 p80) = 0 from h1), gtQ, show rdQ (hmT 17 3 p80) 17 (Gv.e ⟨3, [p80]⟩) = p80 from h2]
  rfl
theorem hm_len {k e : Int} {p : Pl} : (hmT k e p).length ≤ 900 := by
  unfold hmT byT
  split
  · rw [markL_length, headT_length]
    have : (plB p).length = 6 := by simp [plB]
    omega
  · simp
theorem awake26_ac : ACalls Tryz.prog 84 [] (.bool true) := by
  refine acalls_L (T := tt) (S := fun L => aw26_s L) (lo := noA) (lb := noA) 5 (fn := Tryz.f84) rfl rfl (by kernel_rfl) (by kernel_rfl) rfl tt_ok (sumOf_ok ⟨give_good, msgs_good, ttake_good, gtake_good, done_good, tru_good Awake04_ac, tru_good Awake08_ac, tru_good Awake25_ac, trivial⟩) (by kernel_rfl) ?_
  intro L P' Q' hL hP hQ
  have h0 : L rdWPl (.lst 5 1 (fun i j => lget .dead [.int .u8 0, .int .u8 0, .int .u8 0, .int .u8 0, .int .u16 80] (L2 L Nat.add 0 i * 5 + j))) = [p80] := by subst hL; rfl
  have h0o : L okWPl (.lst 5 1 (fun i j => lget .dead [.int .u8 0, .int .u8 0, .int .u8 0, .int .u8 0, .int .u16 80] (L2 L Nat.add 0 i * 5 + j))) := by
    subst hL
    refine ⟨rfl, fun i hi => ?_⟩
    obtain rfl : i = 0 := by omega
    exact ⟨⟨_, rfl⟩, ⟨_, rfl⟩, ⟨_, rfl⟩, ⟨_, rfl⟩, ⟨_, rfl⟩⟩
  have hG : ∀ (e : Int) (y : List Pl), L rdGGv (.agg [.int .u64 e, .lst 5 (L lenW y) (fun i => plC L (L (L nthPl y) i))]) = ⟨e, y⟩ := by subst hL; exact fun e y => rdgGv ⟨e, y⟩
  have hO : ∀ (e : Int) (y : List Pl), L okGGv (.agg [.int .u64 e, .lst 5 (L lenW y) (fun i => plC L (L (L nthPl y) i))]) := by subst hL; exact fun e y => okgGv ⟨e, y⟩
  have hGn : ∀ (e : Int), L rdGGv (.agg [.int .u64 e, .nils]) = ⟨e, []⟩ := by subst hL; intro e; rfl
  have hOn : ∀ (e : Int), L okGGv (.agg [.int .u64 e, .nils]) := by subst hL; exact fun e => ⟨rfl, ⟨_, rfl⟩, trivial⟩
  have hn : L rdWPl .nils = [] := by subst hL; rfl
  have hno : L okWPl .nils := by subst hL; exact trivial
  have g80 : L gaveL [p80] = [p80] := by subst hL; exact gave80
  have g0 : L gaveL [] = [] := by subst hL; rfl
  have t0 : L Int.toNat 0 = 0 := by subst hL; rfl
  have m80 : L (L msgN ⟨3, [p80]⟩) 0 = hmT 16 3 p80 := by subst hL; exact msg80
  have k1 : L (L tkE ⟨3, []⟩) (hmT 16 3 p80) = 0 := by subst hL; exact tk80.1
  have k2 : L (L tkP ⟨3, []⟩) (hmT 16 3 p80) = p80 := by subst hL; exact tk80.2.1
  have k3 : L (L tkS ⟨3, []⟩) (hmT 16 3 p80) = hmT 17 3 p80 := by subst hL; exact tk80.2.2
  have k4 : L (L gtE ⟨3, [p80]⟩) (hmT 17 3 p80) = 0 := by subst hL; exact gt80.1
  have k5 : L (L gtG ⟨3, [p80]⟩) (hmT 17 3 p80) = ⟨3, []⟩ := by subst hL; exact gt80.2
  (cbv; try simp only [sat_need, sat_must, sat_ite, sat_done, sat_yes, sat_ex, sat_all, sat_sup, sat_and, sat_fail, true_and, and_true])
  simp only [h0, h0o, g80, hG, hO, hGn, hOn, hn, hno, g0, t0, m80, k1, k2, k3, k4, k5]
  subst hQ; subst hL
  refine ⟨⟨trivial, by show (1 : Nat) ≤ 1000000; omega, ?_⟩, ⟨trivial, ?_⟩, rfl, ⟨trivial, ?_, ?_⟩, ⟨trivial, ?_, ?_⟩, fun _ => ⟨fun _ => ⟨fun _ => ⟨⟨trivial, by show (0 : Nat) ≤ 1000000; omega, ?_⟩, trivial, fun _ => ⟨fun _ => ⟨fun _ => ⟨fun _ => ⟨trivial, ?_⟩, fun h => by cases h⟩, fun h => by cases h⟩, fun h => by cases h⟩, fun h => by cases h⟩, fun h => by cases h⟩, fun h => by cases h⟩, fun h => by cases h⟩
  · intro x hx
    rw [List.mem_singleton.1 hx]; exact p80_ok
  · exact ⟨by decide, (fun x hx => by rw [List.mem_singleton.1 hx]; exact p80_ok), by show (1 : Nat) ≤ 1000000; omega⟩
  · exact ⟨by decide, okP_nil, by show (0 : Nat) ≤ 1000000; omega⟩
  · show _ ≤ 900000
    have := hm_len (k := 16) (e := 3) (p := p80)
    omega
  · exact ⟨by decide, ⟨(fun x hx => by rw [List.mem_singleton.1 hx]; exact p80_ok), List.pairwise_singleton _ _⟩, by show (1 : Nat) ≤ 1000000; omega⟩
  · show _ ≤ 900000
    have := hm_len (k := 17) (e := 3) (p := p80)
    omega
  · intro x hx
    simp at hx
  · exact (fits_bool _ _).mpr rfl
def aw26b_s (L : Seal) : Sums := sumOf [give_s L, msgs_s L, tru 84]
theorem Awake26_ac : ACalls Tryz.prog 25 [] (.bool true) := by
  refine acalls_L (T := tt) (S := fun L => aw26b_s L) (lo := noA) (lb := noA) 5 (fn := Tryz.f25) rfl rfl (by kernel_rfl) (by kernel_rfl) rfl tt_ok (sumOf_ok ⟨give_good, msgs_good, tru_good awake26_ac, trivial⟩) (by kernel_rfl) ?_
  intro L P' Q' hL hP hQ
  have h0 : L rdWPl (.lst 5 1 (fun i j => lget .dead [.int .u8 0, .int .u8 0, .int .u8 0, .int .u8 0, .int .u16 80] (L2 L Nat.add 0 i * 5 + j))) = [p80] := by subst hL; rfl
  have h0o : L okWPl (.lst 5 1 (fun i j => lget .dead [.int .u8 0, .int .u8 0, .int .u8 0, .int .u8 0, .int .u16 80] (L2 L Nat.add 0 i * 5 + j))) := by
    subst hL
    refine ⟨rfl, fun i hi => ?_⟩
    obtain rfl : i = 0 := by omega
    exact ⟨⟨_, rfl⟩, ⟨_, rfl⟩, ⟨_, rfl⟩, ⟨_, rfl⟩, ⟨_, rfl⟩⟩
  have hG : ∀ (e : Int) (y : List Pl), L rdGGv (.agg [.int .u64 e, .lst 5 (L lenW y) (fun i => plC L (L (L nthPl y) i))]) = ⟨e, y⟩ := by subst hL; exact fun e y => rdgGv ⟨e, y⟩
  have hO : ∀ (e : Int) (y : List Pl), L okGGv (.agg [.int .u64 e, .lst 5 (L lenW y) (fun i => plC L (L (L nthPl y) i))]) := by subst hL; exact fun e y => okgGv ⟨e, y⟩
  have g80 : L gaveL [p80] = [p80] := by subst hL; exact gave80
  (cbv; try simp only [sat_need, sat_must, sat_ite, sat_done, sat_yes, sat_ex, sat_all, sat_sup, sat_and, sat_fail, true_and, and_true])
  simp only [h0, h0o, g80, hG, hO]
  subst hQ; subst hL
  refine ⟨⟨trivial, by show (1 : Nat) ≤ 1000000; omega, ?_⟩, ⟨trivial, ?_⟩, fun _ => (fits_bool _ _).mpr rfl, fun h => by cases h⟩
  · intro x hx
    rw [List.mem_singleton.1 hx]; exact p80_ok
  · exact ⟨by decide, (fun x hx => by rw [List.mem_singleton.1 hx]; exact p80_ok), by show (1 : Nat) ≤ 1000000; omega⟩
end Sy
end Go.Proofs.YtckbbcjbbmgmoaaGreatDoor
namespace Go.Proofs.YtckbbcjbbmgmoaaGreatDoor
namespace Sy
open Go Go.RowKit
set_option maxRecDepth 100000
set_option linter.unusedSimpArgs false
set_option linter.unusedVariables false
theorem avL_pl {l : List Pl} {i j : Nat} (hi : i < l.length) (hj : j < 5) : avL (plAt std) l i j = plC std (nthW plV l i) j := by
  rw [nthW_at hi, avL, List.getElem?_eq_getElem hi]
  match j, hj with
  | 0, _ => rfl
  | 1, _ => rfl
  | 2, _ => rfl
  | 3, _ => rfl
  | 4, _ => rfl
theorem ep_first {a b : Int} {l : List Pl} {i : Nat} (ha : 0 ≤ a ∧ a < 18446744073709551616) (hab : ¬ a = b) (hl : allP l) (hport : ∀ x ∈ l, ¬ x.p = 0) (hi : i < (gaveL l).length) :
    tkE ⟨b, []⟩ (hmT 16 a (nthPl (gaveL l) i)) = 18 ∧ tkS ⟨b, []⟩ (hmT 16 a (nthPl (gaveL l) i)) = [] ∧ tkP ⟨b, []⟩ (hmT 16 a (nthPl (gaveL l) i)) = pl0 ∧ tkG ⟨b, []⟩ (hmT 16 a (nthPl (gaveL l) i)) = ⟨b, []⟩ ∧ gtE ⟨a, gaveL l⟩ (hmT 16 a (nthPl (gaveL l) i)) = 10 ∧ plOk (nthPl (gaveL l) i) := by
  have hm : nthPl (gaveL l) i ∈ l := by
    rw [nthPl_at hi]
    have := List.getElem_mem hi
    exact (give_mem.1 this).elim (fun h => by simp at h) id
  have hpo := hl _ hm
  obtain ⟨h1, h2, h3, h4⟩ := hm_read (k := 16) (e := a) (.inl rfl) ha hpo (hport _ hm)
  generalize hmT 16 a (nthPl (gaveL l) i) = m at h1 h2 h3 h4 ⊢
  have e18 : rdE m 16 b = 18 := by rw [rdE, if_neg (by simp [h1]), if_neg (by simp [h2]), if_pos (by rw [h3]; exact hab)]
  have e10 : rdE m 17 a = 10 := by rw [rdE, if_neg (by simp [h1]), if_pos (by rw [h2]; decide)]
  obtain ⟨k0, k1, k2, k3⟩ := tk_bad (g := ⟨b, []⟩) (s := m) (by show ¬ rdE m 16 b = 0; rw [e18]; decide)
  exact ⟨k0.trans e18, k3, k2, k1, e10, hpo⟩
theorem ep_last {a b : Int} {l : List Pl} {i : Nat} (hb : 0 ≤ b ∧ b < 18446744073709551616) (hab : ¬ a = b) (hl : allP l) (hport : ∀ x ∈ l, ¬ x.p = 0) (hi : i < (gaveL l).length) :
    gtE ⟨a, gaveL l⟩ (hmT 17 b (nthPl (gaveL l) i)) = 18 ∧ gtG ⟨a, gaveL l⟩ (hmT 17 b (nthPl (gaveL l) i)) = ⟨a, gaveL l⟩ ∧ plOk (nthPl (gaveL l) i) := by
  have hm : nthPl (gaveL l) i ∈ l := by
    rw [nthPl_at hi]
    have := List.getElem_mem hi
    exact (give_mem.1 this).elim (fun h => by simp at h) id
  have hpo := hl _ hm
  obtain ⟨h1, h2, h3, h4⟩ := hm_read (k := 17) (e := b) (.inr rfl) hb hpo (hport _ hm)
  generalize hmT 17 b (nthPl (gaveL l) i) = m at h1 h2 h3 h4 ⊢
  have e18 : rdE m 17 a = 18 := by rw [rdE, if_neg (by simp [h1]), if_neg (by simp [h2]), if_pos (by rw [h3]; exact fun h => hab h.symm)]
  have e : gtE ⟨a, gaveL l⟩ m = 18 := e18
  exact ⟨e, by rw [gtG, if_neg (by rw [e]; decide)], hpo⟩
theorem gave_done {a : Int} {l : List Pl} : doneG ⟨a, gaveL l⟩ = ieq (l.length : Int) 0 := by
  rw [Bool.eq_iff_iff, ieq_t]
  unfold doneG
  rw [decide_eq_true_eq]
  constructor
  · intro h
    cases l with
    | nil => rfl
    | cons p l =>
      have : p ∈ gaveL (p :: l) := give_mem.2 (.inr (by simp))
      rw [show gaveL (p :: l) = [] from h] at this
      simp at this
  · intro h
    have : l = [] := List.eq_nil_of_length_eq_zero (by omega)
    rw [this]; rfl
theorem ac_w3 {α : Type} {V : Vw α} (K : VwOk V) {P : Program} {f : FuncId} {y z x r : AV} {xs : List AV} (ho : okW V x) (h : ACalls P f (y :: z :: lstW std V (rdW V x) :: xs) r) : ACalls P f (y :: z :: x :: xs) r :=
  ac_args (fun hp D vs hr => by
    refine ⟨by rw [← hr.1]; rfl, fun i u v hz hv => ?_⟩
    match i, hz with
    | 0, hz => exact hr.2 0 u v hz hv
    | 1, hz => exact hr.2 1 u v hz hv
    | 2, hz => cases hz; exact okW_R K ho (hr.2 2 x v rfl hv)
    | i + 3, hz => exact hr.2 (i + 3) u v hz hv) h
def portN (l : List Pl) (i : Nat) : Prop := i ≤ l.length ∧ ∀ x ∈ l.take i, ¬ x.p = 0
def giv (e : Int) (l : List Pl) : Gv := ⟨e, gaveL l⟩
def leG2 (g : Gv) (i : Nat) : Prop := i ≤ g.l.length
def heA (L : Seal) (a b : Int) (l : List Pl) : Nat → St → Option Ann := fun id st => match id with
  | 0 => some ⟨Nat, fun i => [(35, .int .i64 (L natI i))], fun i => [], [0, 1, 2, 33, 34], [], fun i => L2 L portN l i, fun i => L2 L toN l i⟩
  | 2 => some ⟨Nat, fun i => [(51, .int .i64 (L natI i))], fun i => [], [0, 1, 2, 9, 10, 49, 50], [9, 10], fun i => L2 L leG2 (L2 L giv a l) i, fun i => L2 L toG (L2 L giv a l) i⟩
  | 4 => some ⟨Nat, fun i => [(94, .int .i64 (L natI i))], fun i => [], [0, 1, 2, 9, 92, 93], [9], fun i => L2 L leG2 (L2 L giv a l) i, fun i => L2 L toG (L2 L giv a l) i⟩
  | _ => none
def he_s (L : Seal) : Sums := sumOf [tru 25, hm_s 26 L, give_s L, msgs_s L, ttake_s L, gtake_s L, done_s L]
set_option maxHeartbeats 400000 in
theorem handoffEpochs_ac (a b : Int) (l : List Pl) (ha : 0 ≤ a ∧ a < 18446744073709551616) (hb : 0 ≤ b ∧ b < 18446744073709551616) (hl : allP l) : ACalls Tryz.prog 9 [.int .u64 a, .int .u64 b, lstPl std l] (.bool true) := by
  refine acalls_L' (T := tt) (S := fun L => he_s L) (lo := fun L => heA L a b l) (lb := noA) 5 (fn := Tryz.f9) (xs := fun L => [.int .u64 a, .int .u64 b, lstPl L l]) rfl rfl (by kernel_rfl) (by kernel_rfl) rfl tt_ok (sumOf_ok ⟨tru_good Awake26_ac, hm_good, give_good, msgs_good, ttake_good, gtake_good, done_good, trivial⟩) (by kernel_rfl) ?_
  intro L P' Q' hL hP hQ
  have hG : ∀ y : List Pl, L rdWPl (.lst 5 (L lenW y) (fun i => plC L (L (L nthPl y) i))) = y := by subst hL; exact fun y => rdwPl y
  have hO : ∀ y : List Pl, L okWPl (.lst 5 (L lenW y) (fun i => plC L (L (L nthPl y) i))) := by subst hL; exact fun y => okwPl y
  have hGG : ∀ (e : Int) (y : List Pl), L rdGGv (.agg [.int .u64 e, .lst 5 (L lenW y) (fun i => plC L (L (L nthPl y) i))]) = ⟨e, y⟩ := by subst hL; exact fun e y => rdgGv ⟨e, y⟩
  have hOG : ∀ (e : Int) (y : List Pl), L okGGv (.agg [.int .u64 e, .lst 5 (L lenW y) (fun i => plC L (L (L nthPl y) i))]) := by subst hL; exact fun e y => okgGv ⟨e, y⟩
  have hGn : ∀ (e : Int), L rdGGv (.agg [.int .u64 e, .nils]) = ⟨e, []⟩ := by subst hL; intro e; rfl
  have hOn : ∀ (e : Int), L okGGv (.agg [.int .u64 e, .nils]) := by subst hL; exact fun e => ⟨rfl, ⟨_, rfl⟩, trivial⟩
  have hE : ∀ y : Pl, L (L (L (L (L Pl.mk (L Pl.a y)) (L Pl.b y)) (L Pl.c y)) (L Pl.d y)) (L Pl.p y) = y := by subst hL; intro y; rfl
  have hE2 : ∀ y : Pl, mkPl L (L Pl.a y) (L Pl.b y) (L Pl.c y) (L Pl.d y) (L Pl.p y) = y := by subst hL; intro y; rfl
  (cbv; try simp only [sat_need, sat_must, sat_ite, sat_done, sat_yes, sat_ex, sat_all, sat_sup, sat_and, sat_fail, true_and, and_true])
  refine ⟨fun h => ?_, fun _ => ⟨fun _ => ?_, fun h8 => ⟨fun _ => ?_, fun hab => ⟨⟨0, ?_⟩, fun i hi => ?_⟩⟩⟩⟩
  · subst hL; cases h
  · subst hQ; exact (fits_bool _ _).mpr rfl
  · subst hQ; exact (fits_bool _ _).mpr rfl
  · (cbv; try simp only [sat_need, sat_must, sat_ite, sat_done, sat_yes, sat_ex, sat_all, sat_sup, sat_and, sat_fail, true_and, and_true])
    (subst hL; subst hQ; simp only [L2, L3, std] at *; try simp only [sySet, reduceCtorEq, forall_const, Int.reduceToNat, Int.reduceAdd, Int.reduceSub, Int.cast_ofNat_Int, Int.toNat_natCast, Nat.le_eq, Nat.sub_eq, ne_eq, Decidable.not_not, implies_true, true_and, and_true, wadd, wsub, wmul, decide_eq_true_eq, decide_eq_false_iff_not, Nat.succ_eq_add_one, imp_false, not_false_eq_true, not_true_eq_false, false_imp_iff, true_imp_iff] at *)
    exact ⟨Nat.zero_le _, fun x hx => by simp at hx⟩
  · have hi2 : portN l i := by
      have h := hi
      rw [hL] at h
      exact h
    have h8 : l.length ≤ 8 := by
      have h := h8
      rw [hL] at h
      have h : ilt 8 (l.length : Int) = false := h
      rw [ilt_f] at h
      omega
    have hab : ¬ a = b := by
      have h := hab
      rw [hL] at h
      have h : ieq a b = false := h
      rw [ieq_f] at h
      exact h
    clear hi
    (cbv; try simp only [sat_need, sat_must, sat_ite, sat_done, sat_yes, sat_ex, sat_all, sat_sup, sat_and, sat_fail, true_and, and_true])
    try simp only [hE, hE2, hG, hO, hGG, hOG, hGn, hOn]
    obtain ⟨hi3, hi4⟩ := hi2
    have hlw : lenW l = l.length := rfl
    have hgl : (gaveL l).length ≤ l.length := by
      have := give_len (l := l) (g := [])
      simpa [gaveL] using this
    have hgk : OkP (gaveL l) := okP_give hl okP_nil
    refine ⟨fun hlt => ⟨?_, fun _ => ?_, fun hp => ⟨i + 1, ?_⟩⟩, fun hge => ⟨⟨trivial, ?_, ?_⟩, ⟨trivial, ?_⟩, ⟨0, ?_⟩, fun i2 hi2 => ?_⟩⟩
    · (subst hL; subst hQ; simp only [L2, L3, std] at *; try simp only [sySet, reduceCtorEq, forall_const, Int.reduceToNat, Int.reduceAdd, Int.reduceSub, Int.cast_ofNat_Int, Int.toNat_natCast, Nat.le_eq, Nat.sub_eq, ne_eq, Decidable.not_not, implies_true, true_and, and_true, wadd, wsub, wmul, decide_eq_true_eq, decide_eq_false_iff_not, Nat.succ_eq_add_one, imp_false, not_false_eq_true, not_true_eq_false, false_imp_iff, true_imp_iff] at *)
      omega
    · subst hQ; exact (fits_bool _ _).mpr rfl
    · (cbv; try simp only [sat_need, sat_must, sat_ite, sat_done, sat_yes, sat_ex, sat_all, sat_sup, sat_and, sat_fail, true_and, and_true])
      (subst hL; subst hQ; simp only [L2, L3, std] at *; try simp only [sySet, reduceCtorEq, forall_const, Int.reduceToNat, Int.reduceAdd, Int.reduceSub, Int.cast_ofNat_Int, Int.toNat_natCast, Nat.le_eq, Nat.sub_eq, ne_eq, Decidable.not_not, implies_true, true_and, and_true, wadd, wsub, wmul, decide_eq_true_eq, decide_eq_false_iff_not, Nat.succ_eq_add_one, imp_false, not_false_eq_true, not_true_eq_false, false_imp_iff, true_imp_iff] at *)
      refine ⟨wrap1 rfl (by omega), ⟨by omega, fun x hx => ?_⟩, by show l.length - (i + 1) + 1 ≤ l.length - i; omega⟩
      rw [List.take_succ_eq_append_getElem (by omega), List.mem_append, List.mem_singleton, ← nthPl_at (by omega)] at hx
      rcases hx with hx | rfl
      · exact hi4 x hx
      · exact hp
    · subst hL; show l.length ≤ 1000000; omega
    · subst hL; exact hl
    · subst hL; exact ⟨ha, hgk.ok, by show (gaveL l).length ≤ 1000000; omega⟩
    · (cbv; try simp only [sat_need, sat_must, sat_ite, sat_done, sat_yes, sat_ex, sat_all, sat_sup, sat_and, sat_fail, true_and, and_true])
      try simp only [hGG]
      (subst hL; subst hQ; simp only [L2, L3, std] at *; try simp only [sySet, reduceCtorEq, forall_const, Int.reduceToNat, Int.reduceAdd, Int.reduceSub, Int.cast_ofNat_Int, Int.toNat_natCast, Nat.le_eq, Nat.sub_eq, ne_eq, Decidable.not_not, implies_true, true_and, and_true, wadd, wsub, wmul, decide_eq_true_eq, decide_eq_false_iff_not, Nat.succ_eq_add_one, imp_false, not_false_eq_true, not_true_eq_false, false_imp_iff, true_imp_iff] at *)
      exact Nat.zero_le _
    · have hport : ∀ x ∈ l, ¬ x.p = 0 := by
        have h := hge
        rw [hL] at h
        have h : ilt (i : Int) (l.length : Int) = false := h
        rw [ilt_f] at h
        rw [List.take_of_length_le (by omega)] at hi4
        exact hi4
      have hi5 : i2 ≤ (gaveL l).length := by
        have h := hi2
        rw [hL] at h
        exact h
      clear hi2
      (cbv; try simp only [sat_need, sat_must, sat_ite, sat_done, sat_yes, sat_ex, sat_all, sat_sup, sat_and, sat_fail, true_and, and_true])
      try simp only [hE, hE2, hG, hO, hGG, hOG, hGn, hOn]
      have hgw : lenG ⟨a, gaveL l⟩ = (gaveL l).length := rfl
      refine ⟨fun hlt => ?_, fun hge2 => ?_⟩
      · have hlt2 : i2 < (gaveL l).length := by
          have h := hlt
          rw [hL] at h
          have h : ilt (i2 : Int) ((gaveL l).length : Int) = true := h
          rw [ilt_t] at h
          omega
        obtain ⟨q1, q2, q3, q4, q5, q6⟩ := ep_first (b := b) ha (fun h => hab h) hl hport hlt2
        have hml := hm_len (k := 16) (e := a) (p := nthPl (gaveL l) i2)
        have f0 : L (L msgN ⟨a, L gaveL l⟩) (L Int.toNat (L natI i2)) = hmT 16 a (nthPl (gaveL l) i2) := by subst hL; rfl
        generalize hmT 16 a (nthPl (gaveL l) i2) = m at q1 q2 q3 q4 q5 hml f0
        have f1 : L (L tkE ⟨b, []⟩) m = 18 := by subst hL; exact q1
        have f2 : L (L tkS ⟨b, []⟩) m = [] := by subst hL; exact q2
        have f3 : L (L tkP ⟨b, []⟩) m = pl0 := by subst hL; exact q3
        have f4 : L (L tkG ⟨b, []⟩) m = ⟨b, []⟩ := by subst hL; exact q4
        have f5 : L (L gtE ⟨a, L gaveL l⟩) m = 10 := by subst hL; exact q5
        simp only [f0, f1, f2, f3, f4, f5]
        refine ⟨?_, ⟨trivial, ?_, ?_⟩, ⟨trivial, ?_, ?_⟩, fun h => ?_, fun _ => ⟨fun h => ?_, fun _ => ⟨fun h => ?_, fun _ => ⟨fun h => ?_, fun _ => ⟨fun h => ?_, fun _ => ⟨i2 + 1, ?_⟩⟩⟩⟩⟩⟩
        · (subst hL; subst hQ; simp only [L2, L3, std] at *; try simp only [sySet, reduceCtorEq, forall_const, Int.reduceToNat, Int.reduceAdd, Int.reduceSub, Int.cast_ofNat_Int, Int.toNat_natCast, Nat.le_eq, Nat.sub_eq, ne_eq, Decidable.not_not, implies_true, true_and, and_true, wadd, wsub, wmul, decide_eq_true_eq, decide_eq_false_iff_not, Nat.succ_eq_add_one, imp_false, not_false_eq_true, not_true_eq_false, false_imp_iff, true_imp_iff] at *)
          omega
        · subst hL; exact ⟨hb, okP_nil, Nat.zero_le _⟩
        · subst hL
          show m.length ≤ 900000
          omega
        · subst hL; exact ⟨ha, hgk, by show (gaveL l).length ≤ 1000000; omega⟩
        · subst hL
          show m.length ≤ 900000
          omega
        · subst hL; exact absurd h (by decide)
        · subst hL; exact absurd h (by decide)
        · subst hL; exact absurd h (by decide)
        · subst hL; exact absurd h (by show ¬ ine 0 0 = true; decide)
        · subst hL; exact absurd h (by decide)
        · (cbv; try simp only [sat_need, sat_must, sat_ite, sat_done, sat_yes, sat_ex, sat_all, sat_sup, sat_and, sat_fail, true_and, and_true])
          try simp only [hGG]
          (subst hL; subst hQ; simp only [L2, L3, std] at *; try simp only [sySet, reduceCtorEq, forall_const, Int.reduceToNat, Int.reduceAdd, Int.reduceSub, Int.cast_ofNat_Int, Int.toNat_natCast, Nat.le_eq, Nat.sub_eq, ne_eq, Decidable.not_not, implies_true, true_and, and_true, wadd, wsub, wmul, decide_eq_true_eq, decide_eq_false_iff_not, Nat.succ_eq_add_one, imp_false, not_false_eq_true, not_true_eq_false, false_imp_iff, true_imp_iff] at *)
          exact ⟨wrap1 rfl (by omega), by show i2 + 1 ≤ (gaveL l).length; omega, by show (gaveL l).length - (i2 + 1) + 1 ≤ (gaveL l).length - i2; omega⟩
      · refine ⟨⟨0, ?_⟩, fun i3 hi6 => ?_⟩
        · (cbv; try simp only [sat_need, sat_must, sat_ite, sat_done, sat_yes, sat_ex, sat_all, sat_sup, sat_and, sat_fail, true_and, and_true])
          (subst hL; subst hQ; simp only [L2, L3, std] at *; try simp only [sySet, reduceCtorEq, forall_const, Int.reduceToNat, Int.reduceAdd, Int.reduceSub, Int.cast_ofNat_Int, Int.toNat_natCast, Nat.le_eq, Nat.sub_eq, ne_eq, Decidable.not_not, implies_true, true_and, and_true, wadd, wsub, wmul, decide_eq_true_eq, decide_eq_false_iff_not, Nat.succ_eq_add_one, imp_false, not_false_eq_true, not_true_eq_false, false_imp_iff, true_imp_iff] at *)
          exact Nat.zero_le _
        · have hi7 : i3 ≤ (gaveL l).length := by
            have h := hi6
            rw [hL] at h
            exact h
          clear hi6
          (cbv; try simp only [sat_need, sat_must, sat_ite, sat_done, sat_yes, sat_ex, sat_all, sat_sup, sat_and, sat_fail, true_and, and_true])
          try simp only [hE, hE2, hG, hO, hGG, hOG, hGn, hOn]
          refine ⟨fun hlt => ?_, fun hge3 => ⟨trivial, ?_⟩⟩
          · have hlt2 : i3 < (gaveL l).length := by
              have h := hlt
              rw [hL] at h
              have h : ilt (i3 : Int) ((gaveL l).length : Int) = true := h
              rw [ilt_t] at h
              omega
            obtain ⟨q1, q2, q3⟩ := ep_last (a := a) hb hab hl hport hlt2
            have hml := hm_len (k := 17) (e := b) (p := nthPl (gaveL l) i3)
            have f0 : L (L (L hmT 17) b) (L (L nthPl (L gaveL l)) (L Int.toNat (L natI i3))) = hmT 17 b (nthPl (gaveL l) i3) := by subst hL; rfl
            generalize hmT 17 b (nthPl (gaveL l) i3) = m at q1 q2 hml f0
            have f1 : L (L gtE ⟨a, L gaveL l⟩) m = 18 := by subst hL; exact q1
            have f2 : L (L gtG ⟨a, L gaveL l⟩) m = ⟨a, L gaveL l⟩ := by subst hL; exact q2
            simp only [f0, f1, f2]
            refine ⟨?_, ?_, ⟨trivial, ?_, ?_⟩, fun h => ?_, fun _ => ⟨fun h => ?_, fun _ => ⟨i3 + 1, ?_⟩⟩⟩
            · (subst hL; subst hQ; simp only [L2, L3, std] at *; try simp only [sySet, reduceCtorEq, forall_const, Int.reduceToNat, Int.reduceAdd, Int.reduceSub, Int.cast_ofNat_Int, Int.toNat_natCast, Nat.le_eq, Nat.sub_eq, ne_eq, Decidable.not_not, implies_true, true_and, and_true, wadd, wsub, wmul, decide_eq_true_eq, decide_eq_false_iff_not, Nat.succ_eq_add_one, imp_false, not_false_eq_true, not_true_eq_false, false_imp_iff, true_imp_iff] at *)
              omega
            · subst hL; exact ⟨hb, q3⟩
            · subst hL; exact ⟨ha, hgk, by show (gaveL l).length ≤ 1000000; omega⟩
            · subst hL
              show m.length ≤ 900000
              omega
            · subst hL; exact absurd h (by decide)
            · subst hL
              have h : ine ((gaveL l).length : Int) ((gaveL l).length : Int) = true := h
              rw [ine_t] at h
              exact absurd rfl h
            · (cbv; try simp only [sat_need, sat_must, sat_ite, sat_done, sat_yes, sat_ex, sat_all, sat_sup, sat_and, sat_fail, true_and, and_true])
              (subst hL; subst hQ; simp only [L2, L3, std] at *; try simp only [sySet, reduceCtorEq, forall_const, Int.reduceToNat, Int.reduceAdd, Int.reduceSub, Int.cast_ofNat_Int, Int.toNat_natCast, Nat.le_eq, Nat.sub_eq, ne_eq, Decidable.not_not, implies_true, true_and, and_true, wadd, wsub, wmul, decide_eq_true_eq, decide_eq_false_iff_not, Nat.succ_eq_add_one, imp_false, not_false_eq_true, not_true_eq_false, false_imp_iff, true_imp_iff] at *)
              exact ⟨wrap1 rfl (by omega), by show i3 + 1 ≤ (gaveL l).length; omega, by show (gaveL l).length - (i3 + 1) + 1 ≤ (gaveL l).length - i3; omega⟩
          · subst hQ; subst hL
            refine (fits_bool _ _).mpr ?_
            show beqB (doneG ⟨a, gaveL l⟩) (ieq (l.length : Int) 0) = true
            rw [gave_done]
            exact beqB_self _
theorem law_HandoffEpochs (a : Int) (ha : (Lit.int .u64 a).wf = true) (b : Int) (hb : (Lit.int .u64 b).wf = true) (l : List Pl) (hl : l.length ≤ maxLen ∧ ∀ y ∈ l, plOk y) : ACalls Tryz.prog 9 [.int .u64 a, .int .u64 b, .lst 5 l.length (avL (plAt std) l)] (.bool true) := by
  obtain ⟨k1, k2⟩ := rdW_back (n := l.length) (get := avL (plAt std) l) (l := l) plV_ok rfl (fun i j hi hj => avL_pl hi hj)
  have k3 : rdW plV (.lst 5 l.length (avL (plAt std) l)) = l := k2
  refine ac_w3 plV_ok k1 ?_
  rw [k3]
  exact handoffEpochs_ac a b l (by have := bounds_u64 ha; omega) (by have := bounds_u64 hb; omega) hl.2
end Sy
end Go.Proofs.YtckbbcjbbmgmoaaGreatDoor
namespace Go.Proofs.YtckbbcjbbmgmoaaGreatDoor
namespace Sy
open Go
set_option linter.unusedVariables false

theorem laid_at {P : Program} {w : World} {n : String} {d : DataW Unit} : ∀ {l : List (String × DataW Unit)} {ps : List MemPlace}, DataW.LaidVars P w l ps → (n, d) ∈ l →
    ∃ g t cs fuel p, P.globalNamed n = some g ∧ (P.globals[g]?).map (·.type) = some t ∧ w.var? P n = some cs ∧ DataW.trod (fun _ => ()) P w 0 (fun _ => true) false fuel t cs.toList = some (d, p)
  | x :: r, ps, h, hm => by
    obtain ⟨n', d'⟩ := x
    obtain ⟨g, t, cs, fuel, p, q, h1, h2, h3, h4, h5, _⟩ := h
    rcases List.mem_cons.1 hm with e | hm
    · cases e
      exact ⟨g, t, cs, fuel, p, h1, h2, h3, h4⟩
    · exact laid_at h5 hm
theorem laid_tab {P : Program} {w : World} {name : String} {k : IntKind} {zs : List Int} {l : List (String × DataW Unit)} (h : laidMet P l w) (hm : (name, Lib.tabData k zs) ∈ l) {g : Nat} {t e : TypeId} {n : Nat}
    (hg : P.globalNamed name = some g) (hty : (P.globals[g]?).map (·.type) = some t) (ht : P.underlying t = some (.array n e)) (he : P.underlying e = some (.int k)) (hce : P.cellsOf e = 1) (hct : P.cellsOf t = n) : Lib.TabIs P w name k zs := by
  obtain ⟨ps, hv, _⟩ := h
  obtain ⟨g', t', cs, fuel, p, hg', ht', hvar, hd⟩ := laid_at hv hm
  obtain rfl := Option.some.inj (hg.symm.trans hg')
  obtain rfl := Option.some.inj (hty.symm.trans ht')
  unfold Lib.TabIs
  rw [hvar, ← Lib.cells_of_tab ht he hce hct hd]
theorem laid_ifc {P : Program} {w : World} {name nm : String} {d : DataW Unit} {l : List (String × DataW Unit)} (h : laidMet P l w) (hm : (name, .iface nm d) ∈ l) {g : Nat} {t : TypeId} {ms : Array (String × TypeId)}
    (hg : P.globalNamed name = some g) (hty : (P.globals[g]?).map (·.type) = some t) (ht : P.underlying t = some (.interface ms)) : ∃ te pe, w.var? P name = some #[.iface te pe] := by
  obtain ⟨ps, hv, _⟩ := h
  obtain ⟨g', t', cs, fuel, p, hg', ht', hvar, hd⟩ := laid_at hv hm
  obtain rfl := Option.some.inj (hg.symm.trans hg')
  obtain rfl := Option.some.inj (hty.symm.trans ht')
  obtain ⟨f2, u, v, e, _, _⟩ := iface_of_trod ht hd
  refine ⟨u, v, ?_⟩
  rw [hvar]
  obtain ⟨l0⟩ := cs
  have e : l0 = [.iface u v] := e
  rw [e]
end Sy
end Go.Proofs.YtckbbcjbbmgmoaaGreatDoor
