/-Chapter 9 (config): a config's bytes; whether it is light. Chapter 9 (config): the same. Arguments that are structs with lists of structs, opened by views. The laws of chapter 9 (config): ConfigApart. From a row's listed variables to what the executor asks of them (GOk).-/
import Derived.Test.YtckbbcjbbmgmoaaGreatDoorM4
import Derived.Test.YtckbbcjbbmgmoaaGreatDoorM1
import Derived.ProofKit
import Derived.OpenShut
import Derived.LaidMore
import Derived.Lay
import Derived.Stop.Joined
import Derived.Lib.LaidTab
namespace Go.Proofs.YtckbbcjbbmgmoaaGreatDoor
namespace Sy
open Go Go.RowKit
set_option maxRecDepth 100000
set_option linter.unusedSimpArgs false
set_option linter.unusedVariables false

theorem lit3 (a b c : CV) : rdL (.lst 4 3 fun i j => lget .dead [.int .i64 a.kd, .int .u64 a.nn, .str a.tx, .lst 4 (lenV a) (cvIn a), .int .i64 b.kd, .int .u64 b.nn, .str b.tx, .lst 4 (lenV b) (cvIn b), .int .i64 c.kd, .int .u64 c.nn, .str c.tx, .lst 4 (lenV c) (cvIn c)] (i * 4 + j)) = [a, b, c] := (cells4_rd [a, b, c] (n := 3) rfl rfl).1
theorem lit3_ok (a b c : CV) : okL (.lst 4 3 fun i j => lget .dead [.int .i64 a.kd, .int .u64 a.nn, .str a.tx, .lst 4 (lenV a) (cvIn a), .int .i64 b.kd, .int .u64 b.nn, .str b.tx, .lst 4 (lenV b) (cvIn b), .int .i64 c.kd, .int .u64 c.nn, .str c.tx, .lst 4 (lenV c) (cvIn c)] (i * 4 + j)) := (cells4_rd [a, b, c] (n := 3) rfl rfl).2
def lens12 (n : Nat) (x : Cf) : Prop := x.ls.length ≤ n ∧ x.cs.length ≤ n
def preMF (x : Cf) : Prop := lens12 1000000 x
def preBF (x : Cf) : Prop := lenE x.cs ∧ ∀ c ∈ x.cs, preBC c
theorem manyF_good : Good Tryz.prog (prS 49 okGCf rdGCf manyF preMF std) := by
  intro xs p r h hp
  dsimp only [prS] at h ⊢
  split at h <;> cases h
  try simp only [L2, L3, std] at hp ⊢
  rename_i x
  refine ac_g cfV_ok hp.1 ?_
  have hp := hp.2
  show ACalls _ _ _ (.bool (manyF (rdG cfV x)))
  have hp : preMF (rdG cfV x) := hp
  generalize rdG cfV x = y at hp ⊢
  refine acalls_L' (T := tt) (S := fun L => sumOf [anyS 105 106 okWLs rdWLs anyML presML L, anyS 107 108 okWCl rdWCl anyMC presMC L]) (lo := fun _ => noA std) (lb := noA) 5 (fn := Tryz.f49) (xs := fun L => [.agg [.int .u64 (L Cf.v y), lstLs L (L Cf.ls y), lstCl L (L Cf.cs y)]]) rfl rfl (by kernel_rfl) (by kernel_rfl) rfl tt_ok (sumOf_ok ⟨anyML_good mL_good, anyMC_good mC_good, trivial⟩) (by kernel_rfl) ?_
  intro L P' Q' hL hP hQ
  (cbv; try simp only [sat_need, sat_must, sat_ite, sat_done, sat_yes, sat_ex, sat_all, sat_sup, sat_and, sat_fail, true_and, and_true])
  (subst hL; subst hQ; simp only [L2, L3, std] at *; try simp only [sySet, reduceCtorEq, forall_const, Int.reduceToNat, Int.reduceAdd, Int.reduceSub, Int.cast_ofNat_Int, Int.toNat_natCast, Nat.le_eq, Nat.sub_eq, ne_eq, Decidable.not_not, implies_true, true_and, and_true, wadd, wsub, wmul, decide_eq_true_eq, decide_eq_false_iff_not, Nat.succ_eq_add_one, imp_false, not_false_eq_true, not_true_eq_false, false_imp_iff, true_imp_iff] at *)
  simp only [rdwLs, rdwCl]
  have e1 : lenW y.ls = y.ls.length := rfl
  have e2 : lenW y.cs = y.cs.length := rfl
  refine ⟨fun h => ?_, fun h => ⟨⟨okwLs _, hp.1, fun _ _ => trivial⟩, fun h2 => ?_, fun h2 => ⟨⟨okwCl _, hp.2, fun _ _ => trivial⟩, ?_⟩⟩⟩
  · unfold manyF; rw [decide_eq_true (by omega)]; rfl
  · unfold manyF; rw [show y.ls.any manyL = true from h2]; simp
  · unfold manyF; rw [show y.ls.any manyL = false from h2, decide_eq_false (by omega)]; simp; rfl
theorem belF_good : Good Tryz.prog (prS 50 okGCf rdGCf belF preBF std) := by
  intro xs p r h hp
  dsimp only [prS] at h ⊢
  split at h <;> cases h
  try simp only [L2, L3, std] at hp ⊢
  rename_i x
  refine ac_g cfV_ok hp.1 ?_
  have hp := hp.2
  show ACalls _ _ _ (.bool (belF (rdG cfV x)))
  have hp : preBF (rdG cfV x) := hp
  generalize rdG cfV x = y at hp ⊢
  refine acalls_L' (T := tt) (S := fun L => sumOf [anyS 107 109 okWCl rdWCl anyBC presBC L]) (lo := fun _ => noA std) (lb := noA) 5 (fn := Tryz.f50) (xs := fun L => [.agg [.int .u64 (L Cf.v y), lstLs L (L Cf.ls y), lstCl L (L Cf.cs y)]]) rfl rfl (by kernel_rfl) (by kernel_rfl) rfl tt_ok (sumOf_ok ⟨anyBC_good bC_good, trivial⟩) (by kernel_rfl) ?_
  intro L P' Q' hL hP hQ
  (cbv; try simp only [sat_need, sat_must, sat_ite, sat_done, sat_yes, sat_ex, sat_all, sat_sup, sat_and, sat_fail, true_and, and_true])
  (subst hL; subst hQ; simp only [L2, L3, std] at *; try simp only [sySet, reduceCtorEq, forall_const, Int.reduceToNat, Int.reduceAdd, Int.reduceSub, Int.cast_ofNat_Int, Int.toNat_natCast, Nat.le_eq, Nat.sub_eq, ne_eq, Decidable.not_not, implies_true, true_and, and_true, wadd, wsub, wmul, decide_eq_true_eq, decide_eq_false_iff_not, Nat.succ_eq_add_one, imp_false, not_false_eq_true, not_true_eq_false, false_imp_iff, true_imp_iff] at *)
  simp only [rdwCl]
  exact ⟨⟨okwCl _, hp.1, hp.2⟩, rfl⟩
def bytPre (x : Cf) : Prop := lightF x = true ∧ wfCf x
def byt_s (L : Seal) : Ent1 := (13, fun xs => match xs with
  | [x] => some (L okGCf x ∧ L bytPre (L rdGCf x), .tup [.str (L cfT (L rdGCf x)), .int .i64 (L cfE (L rdGCf x))])
  | _ => none)
theorem byt_good : Good Tryz.prog (byt_s std) := by
  intro xs p r h hp
  dsimp only [byt_s] at h ⊢
  split at h <;> cases h
  try simp only [L2, L3, std] at hp ⊢
  rename_i x
  refine ac_g cfV_ok hp.1 ?_
  have hp := hp.2
  show ACalls _ _ _ (.tup [.str (cfT (rdG cfV x)), .int .i64 (cfE (rdG cfV x))])
  have hp : bytPre (rdG cfV x) := hp
  generalize rdG cfV x = y at hp ⊢
  refine acalls_L' (T := tt) (S := fun L => sumOf [prS 49 okGCf rdGCf manyF preMF L, prS 50 okGCf rdGCf belF preBF L, num_s L, list_s L, cput_s 7000 L, eachS 54 55 okWLs rdWLs lssPre lssVal L, eachS 56 57 okWCl rdWCl clsPre clsVal L]) (lo := fun _ => noA std) (lb := noA) 5 (fn := Tryz.f13) (xs := fun L => [.agg [.int .u64 (L Cf.v y), lstLs L (L Cf.ls y), lstCl L (L Cf.cs y)]]) rfl rfl (by kernel_rfl) (by kernel_rfl) rfl tt_ok (sumOf_ok ⟨manyF_good, belF_good, num_good, list_good, cput2_good 7000, eachLs_good listener_good, eachCl_good cluster_good, trivial⟩) (by kernel_rfl) ?_
  intro L P' Q' hL hP hQ
  have hG : L rdGCf (.agg [.int .u64 (L Cf.v y), .lst 7 (L lenW (L Cf.ls y)) (fun i => lsC L (L (L nthLs (L Cf.ls y)) i)), .lst 2 (L lenW (L Cf.cs y)) (fun i => clC L (L (L nthCl (L Cf.cs y)) i))]) = y := by subst hL; exact (gK cfV_ok y _ rfl).2
  have hO : L okGCf (.agg [.int .u64 (L Cf.v y), .lst 7 (L lenW (L Cf.ls y)) (fun i => lsC L (L (L nthLs (L Cf.ls y)) i)), .lst 2 (L lenW (L Cf.cs y)) (fun i => clC L (L (L nthCl (L Cf.cs y)) i))]) := by subst hL; exact (gK cfV_ok y _ rfl).1
  (cbv; try simp only [sat_need, sat_must, sat_ite, sat_done, sat_yes, sat_ex, sat_all, sat_sup, sat_and, sat_fail, true_and, and_true])
  simp only [hG, hO, true_and]
  (subst hL; subst hQ; simp only [L2, L3, std] at *; try simp only [sySet, reduceCtorEq, forall_const, Int.reduceToNat, Int.reduceAdd, Int.reduceSub, Int.cast_ofNat_Int, Int.toNat_natCast, Nat.le_eq, Nat.sub_eq, ne_eq, Decidable.not_not, implies_true, true_and, and_true, wadd, wsub, wmul, decide_eq_true_eq, decide_eq_false_iff_not, Nat.succ_eq_add_one, imp_false, not_false_eq_true, not_true_eq_false, false_imp_iff, true_imp_iff] at *)
  simp only [rdwLs, rdwCl]
  simp only [lit3, mk_parts, mkV_parts]
  obtain ⟨hl, hw⟩ := hp
  have hf := fit_cf hl hw
  have hl' := hl
  simp only [lightF, Bool.and_eq_true, decide_eq_true_eq, List.all_eq_true, lightL, lightC] at hl'
  obtain ⟨⟨⟨l1, l2⟩, l3⟩, l4⟩ := hl'
  have sz1 : ∀ {α : Type} {l : List α} (n : Nat), n ≤ 12 → l.length ≤ n → lenE l := fun n hn hl => by show _ ≤ 1000000; omega
  refine ⟨⟨by omega, by omega⟩, fun h => ?_, fun h => ⟨⟨sz1 12 (by omega) l2, fun c hc => sz1 12 (by omega) (l4 c hc).2⟩, fun h2 => ?_, fun h2 => ⟨⟨okwLs _, sz1 12 (by omega) l1, fun x hx => ⟨(hw.2.1 x hx).1, sz1 12 (by omega) (l3 x hx).1.2⟩⟩, ⟨okwCl _, sz1 12 (by omega) l2, fun c hc => ⟨sz1 12 (by omega) (l4 c hc).2, fun e he => (hw.2.2 c hc e he).1⟩⟩, ⟨lit3_ok _ _ _, by show (3 : Nat) ≤ 1000000; omega⟩, ⟨(rd_in _).2, ⟨hf.sz, by omega⟩, hf.wf, ?_⟩, ?_⟩⟩⟩
  · have e : cfE y = 6 := by unfold cfE; rw [if_pos h]
    exact ⟨by rw [cfT, if_neg (by rw [e]; decide)], e.symm⟩
  · have e : cfE y = 7 := by unfold cfE; rw [if_neg (by rw [h]; decide), if_pos h2]
    exact ⟨by rw [cfT, if_neg (by rw [e]; decide)], e.symm⟩
  · have := hf.tx
    show (textV (cfVal y)).length ≤ 90000000
    omega
  · have e : cfE y = putE (cfVal y) := by unfold cfE; rw [if_neg (by rw [h]; decide), if_neg (by rw [h2]; decide)]
    refine ⟨?_, e.symm⟩
    show putT (cfVal y) = cfT y
    unfold cfT
    rw [e]
    split
    · rfl
    · rename_i h3
      unfold putT; rw [if_neg h3]
/-! ### Light -/
def allTo {α : Type} (V : Vw α) (p : α → Bool) (l : List α) (i : Nat) : Prop := i ≤ l.length ∧ ∀ j, j < i → p (nthW V l j) = true
theorem allTo_0 {α : Type} (V : Vw α) (p : α → Bool) (l : List α) : allTo V p l 0 := ⟨Nat.zero_le _, fun j hj => by omega⟩
theorem allTo_step {α : Type} {V : Vw α} {p : α → Bool} {l : List α} {i : Nat} (h : allTo V p l i) (hi : i < l.length) (hp : p (nthW V l i) = true) : allTo V p l (i + 1) :=
  ⟨hi, fun j hj => by by_cases e : j = i; · rw [e]; exact hp
                      · exact h.2 j (by omega)⟩
theorem allTo_no {α : Type} {V : Vw α} {p : α → Bool} {l : List α} {i : Nat} (hi : i < l.length) (hp : p (nthW V l i) = false) : l.all p = false := by
  rw [List.all_eq_false]
  exact ⟨l[i], List.getElem_mem _, by rw [nthW_at hi] at hp; rw [hp]; decide⟩
theorem allTo_end {α : Type} {V : Vw α} {p : α → Bool} {l : List α} {i : Nat} (h : allTo V p l i) (hi : l.length ≤ i) : l.all p = true := by
  rw [List.all_eq_true]
  intro x hx
  obtain ⟨j, hj, rfl⟩ := List.getElem_of_mem hx
  have := h.2 j (by omega)
  rwa [nthW_at hj] at this
def toLs (l : List Ls) (i : Nat) : Prop := allTo lsV lightL l i
def toRt (l : List Rt) (i : Nat) : Prop := allTo rtV lightR l i
def toCl (l : List Cl) (i : Nat) : Prop := allTo clV lightC l i
def toGo {α : Type} (l : List α) (i : Nat) : Nat := l.length - i
def goLs (l : List Ls) (i : Nat) : Nat := toGo l i
def goRt (l : List Rt) (i : Nat) : Nat := toGo l i
def goCl (l : List Cl) (i : Nat) : Nat := toGo l i
def lightA (L : Seal) (y : Cf) : Nat → St → Option Ann := fun id st => match id with
  | 0 => some ⟨Nat, fun i => [(20, .int .i64 (L natI i))], fun i => [], [1, 18, 19], [1], fun i => L2 L toLs (L Cf.ls y) i, fun i => L2 L goLs (L Cf.ls y) i⟩
  | 2 => withInt st 20 fun k => some ⟨Nat, fun j => [(37, .int .i64 (L natI j))], fun j => [], [1, 18, 19, 20, 35, 36], [1], fun j => L2 L toRt (L Ls.rs (L2 L nthLs (L Cf.ls y) (L Int.toNat k))) j, fun j => L2 L goRt (L Ls.rs (L2 L nthLs (L Cf.ls y) (L Int.toNat k))) j⟩
  | 4 => some ⟨Nat, fun i => [(57, .int .i64 (L natI i))], fun i => [], [55, 56], [], fun i => L2 L toCl (L Cf.cs y) i, fun i => L2 L goCl (L Cf.cs y) i⟩
  | _ => none
theorem light_no1 {x : Cf} (h : x.ls.all lightL = false) : lightF x = false := by unfold lightF; rw [h]; simp
theorem light_no2 {x : Cf} (h : x.cs.all lightC = false) : lightF x = false := by unfold lightF; rw [h]; simp
theorem lightL_n {x : Ls} (h : 300 < (x.n.length : Int)) : lightL x = false := by unfold lightL; rw [decide_eq_false (p := x.n.length ≤ 300) (by omega)]; simp
theorem lightL_r {x : Ls} (h : 12 < (x.rs.length : Int)) : lightL x = false := by unfold lightL; rw [decide_eq_false (p := x.rs.length ≤ 12) (by omega)]; simp
theorem lightL_a {x : Ls} (h : x.rs.all lightR = false) : lightL x = false := by unfold lightL; rw [h]; simp
theorem lightL_y {x : Ls} (h1 : (x.n.length : Int) ≤ 300) (h2 : (x.rs.length : Int) ≤ 12) (h : x.rs.all lightR = true) : lightL x = true := by unfold lightL; rw [h, decide_eq_true (p := x.n.length ≤ 300) (by omega), decide_eq_true (p := x.rs.length ≤ 12) (by omega)]; rfl
theorem lightC_n {x : Cl} (h : 300 < (x.n.length : Int)) : lightC x = false := by unfold lightC; rw [decide_eq_false (p := x.n.length ≤ 300) (by omega)]; simp
theorem lightC_e {x : Cl} (h : 12 < (x.es.length : Int)) : lightC x = false := by unfold lightC; rw [decide_eq_false (p := x.es.length ≤ 12) (by omega)]; simp
theorem lightC_y {x : Cl} (h1 : (x.n.length : Int) ≤ 300) (h2 : (x.es.length : Int) ≤ 12) : lightC x = true := by unfold lightC; rw [decide_eq_true (p := x.n.length ≤ 300) (by omega), decide_eq_true (p := x.es.length ≤ 12) (by omega)]; rfl
theorem lightR_n {x : Rt} (h : 300 < (x.h.length : Int) ∨ 300 < (x.p.length : Int) ∨ 300 < (x.c.length : Int)) : lightR x = false := by
  unfold lightR
  rcases h with h | h | h
  · rw [decide_eq_false (p := x.h.length ≤ 300) (by omega)]; simp
  · rw [decide_eq_false (p := x.p.length ≤ 300) (by omega)]; simp
  · rw [decide_eq_false (p := x.c.length ≤ 300) (by omega)]; simp
theorem lightR_y {x : Rt} (h1 : (x.h.length : Int) ≤ 300) (h2 : (x.p.length : Int) ≤ 300) (h3 : (x.c.length : Int) ≤ 300) : lightR x = true := by
  unfold lightR; rw [decide_eq_true (p := x.h.length ≤ 300) (by omega), decide_eq_true (p := x.p.length ≤ 300) (by omega), decide_eq_true (p := x.c.length ≤ 300) (by omega)]; rfl
theorem lightF_y {x : Cf} (h1 : (x.ls.length : Int) ≤ 12) (h2 : (x.cs.length : Int) ≤ 12) (h3 : x.ls.all lightL = true) (h4 : x.cs.all lightC = true) : lightF x = true := by
  unfold lightF; rw [h3, h4, decide_eq_true (p := x.ls.length ≤ 12) (by omega), decide_eq_true (p := x.cs.length ≤ 12) (by omega)]; rfl
def preLF (x : Cf) : Prop := True
theorem light_good : Good Tryz.prog (prS 12 okGCf rdGCf lightF preLF std) := by
  intro xs p r h hp
  dsimp only [prS] at h ⊢
  split at h <;> cases h
  try simp only [L2, L3, std] at hp ⊢
  rename_i x
  refine ac_g cfV_ok hp.1 ?_
  have hp := hp.2
  show ACalls _ _ _ (.bool (lightF (rdG cfV x)))
  have hp : preLF (rdG cfV x) := hp
  generalize rdG cfV x = y at hp ⊢
  refine acalls_L' (T := tt) (S := noS) (lo := fun L => lightA L y) (lb := noA) 5 (fn := Tryz.f12) (xs := fun L => [.agg [.int .u64 (L Cf.v y), lstLs L (L Cf.ls y), lstCl L (L Cf.cs y)]]) rfl rfl (by kernel_rfl) (by kernel_rfl) rfl tt_ok (noS_ok _) (by kernel_rfl) ?_
  intro L P' Q' hL hP hQ
  (cbv; try simp only [sat_need, sat_must, sat_ite, sat_done, sat_yes, sat_ex, sat_all, sat_sup, sat_and, sat_fail, true_and, and_true])
  refine ⟨fun h => ?_, fun h => ⟨⟨0, ?_⟩, fun i hi => ?_⟩⟩
  · (subst hL; subst hQ; simp only [L2, L3, std] at *; try simp only [sySet, reduceCtorEq, forall_const, Int.reduceToNat, Int.reduceAdd, Int.reduceSub, Int.cast_ofNat_Int, Int.toNat_natCast, Nat.le_eq, Nat.sub_eq, ne_eq, Decidable.not_not, implies_true, true_and, and_true, wadd, wsub, wmul, decide_eq_true_eq, decide_eq_false_iff_not, Nat.succ_eq_add_one, imp_false, not_false_eq_true, not_true_eq_false, false_imp_iff, true_imp_iff] at *)
    simp only [lightF]
    have e1 : lenW y.ls = y.ls.length := rfl
    have e2 : lenW y.cs = y.cs.length := rfl
    by_cases h1 : y.ls.length ≤ 12
    · rw [decide_eq_false (p := y.cs.length ≤ 12) (by omega)]; simp
    · rw [decide_eq_false h1]; simp
  · (cbv; try simp only [sat_need, sat_must, sat_ite, sat_done, sat_yes, sat_ex, sat_all, sat_sup, sat_and, sat_fail, true_and, and_true])
    (subst hL; subst hQ; simp only [L2, L3, std] at *; try simp only [sySet, reduceCtorEq, forall_const, Int.reduceToNat, Int.reduceAdd, Int.reduceSub, Int.cast_ofNat_Int, Int.toNat_natCast, Nat.le_eq, Nat.sub_eq, ne_eq, Decidable.not_not, implies_true, true_and, and_true, wadd, wsub, wmul, decide_eq_true_eq, decide_eq_false_iff_not, Nat.succ_eq_add_one, imp_false, not_false_eq_true, not_true_eq_false, false_imp_iff, true_imp_iff] at *)
    exact allTo_0 _ _ _
  · cbv at hi
    (cbv; try simp only [sat_need, sat_must, sat_ite, sat_done, sat_yes, sat_ex, sat_all, sat_sup, sat_and, sat_fail, true_and, and_true])
    have e1 : lenW y.ls = y.ls.length := rfl
    have e2 : lenW y.cs = y.cs.length := rfl
    refine ⟨fun hlt => ⟨?_, fun h1 => ?_, fun h1 => ⟨fun h2 => ?_, fun h2 => ⟨⟨0, ?_⟩, fun j hj => ?_⟩⟩⟩, fun hge => ⟨⟨0, ?_⟩, fun k hk => ?_⟩⟩
    · (subst hL; subst hQ; simp only [L2, L3, std] at *; try simp only [sySet, reduceCtorEq, forall_const, Int.reduceToNat, Int.reduceAdd, Int.reduceSub, Int.cast_ofNat_Int, Int.toNat_natCast, Nat.le_eq, Nat.sub_eq, ne_eq, Decidable.not_not, implies_true, true_and, and_true, wadd, wsub, wmul, decide_eq_true_eq, decide_eq_false_iff_not, Nat.succ_eq_add_one, imp_false, not_false_eq_true, not_true_eq_false, false_imp_iff, true_imp_iff] at *)
      omega
    · (subst hL; subst hQ; simp only [L2, L3, std] at *; try simp only [sySet, reduceCtorEq, forall_const, Int.reduceToNat, Int.reduceAdd, Int.reduceSub, Int.cast_ofNat_Int, Int.toNat_natCast, Nat.le_eq, Nat.sub_eq, ne_eq, Decidable.not_not, implies_true, true_and, and_true, wadd, wsub, wmul, decide_eq_true_eq, decide_eq_false_iff_not, Nat.succ_eq_add_one, imp_false, not_false_eq_true, not_true_eq_false, false_imp_iff, true_imp_iff] at *)
      exact (light_no1 (allTo_no (V := lsV) (i := i) (by omega) (lightL_n h1))).symm
    · (subst hL; subst hQ; simp only [L2, L3, std] at *; try simp only [sySet, reduceCtorEq, forall_const, Int.reduceToNat, Int.reduceAdd, Int.reduceSub, Int.cast_ofNat_Int, Int.toNat_natCast, Nat.le_eq, Nat.sub_eq, ne_eq, Decidable.not_not, implies_true, true_and, and_true, wadd, wsub, wmul, decide_eq_true_eq, decide_eq_false_iff_not, Nat.succ_eq_add_one, imp_false, not_false_eq_true, not_true_eq_false, false_imp_iff, true_imp_iff] at *)
      exact (light_no1 (allTo_no (V := lsV) (i := i) (by omega) (lightL_r h2))).symm
    · (cbv; try simp only [sat_need, sat_must, sat_ite, sat_done, sat_yes, sat_ex, sat_all, sat_sup, sat_and, sat_fail, true_and, and_true])
      (subst hL; subst hQ; simp only [L2, L3, std] at *; try simp only [sySet, reduceCtorEq, forall_const, Int.reduceToNat, Int.reduceAdd, Int.reduceSub, Int.cast_ofNat_Int, Int.toNat_natCast, Nat.le_eq, Nat.sub_eq, ne_eq, Decidable.not_not, implies_true, true_and, and_true, wadd, wsub, wmul, decide_eq_true_eq, decide_eq_false_iff_not, Nat.succ_eq_add_one, imp_false, not_false_eq_true, not_true_eq_false, false_imp_iff, true_imp_iff] at *)
      exact allTo_0 _ _ _
    · cbv at hj
      (cbv; try simp only [sat_need, sat_must, sat_ite, sat_done, sat_yes, sat_ex, sat_all, sat_sup, sat_and, sat_fail, true_and, and_true])
      have e3 : ∀ z : Ls, lenW z.rs = z.rs.length := fun _ => rfl
      refine ⟨fun hlt2 => ⟨?_, fun h3 => ?_, fun h3 => ⟨j + 1, ?_⟩⟩, fun hge2 => ⟨i + 1, ?_⟩⟩
      · (subst hL; subst hQ; simp only [L2, L3, std] at *; try simp only [sySet, reduceCtorEq, forall_const, Int.reduceToNat, Int.reduceAdd, Int.reduceSub, Int.cast_ofNat_Int, Int.toNat_natCast, Nat.le_eq, Nat.sub_eq, ne_eq, Decidable.not_not, implies_true, true_and, and_true, wadd, wsub, wmul, decide_eq_true_eq, decide_eq_false_iff_not, Nat.succ_eq_add_one, imp_false, not_false_eq_true, not_true_eq_false, false_imp_iff, true_imp_iff] at *)
        omega
      · (subst hL; subst hQ; simp only [L2, L3, std] at *; try simp only [sySet, reduceCtorEq, forall_const, Int.reduceToNat, Int.reduceAdd, Int.reduceSub, Int.cast_ofNat_Int, Int.toNat_natCast, Nat.le_eq, Nat.sub_eq, ne_eq, Decidable.not_not, implies_true, true_and, and_true, wadd, wsub, wmul, decide_eq_true_eq, decide_eq_false_iff_not, Nat.succ_eq_add_one, imp_false, not_false_eq_true, not_true_eq_false, false_imp_iff, true_imp_iff] at *)
        have e4 := e3 (nthLs y.ls i)
        exact (light_no1 (allTo_no (V := lsV) (i := i) (by omega) (lightL_a (allTo_no (V := rtV) (i := j) (by show j < (nthLs y.ls i).rs.length; omega) (lightR_n (by
          show 300 < ((nthRt (nthLs y.ls i).rs j).h.length : Int) ∨ 300 < ((nthRt (nthLs y.ls i).rs j).p.length : Int) ∨ 300 < ((nthRt (nthLs y.ls i).rs j).c.length : Int)
          omega)))))).symm
      · (cbv; try simp only [sat_need, sat_must, sat_ite, sat_done, sat_yes, sat_ex, sat_all, sat_sup, sat_and, sat_fail, true_and, and_true])
        (subst hL; subst hQ; simp only [L2, L3, std] at *; try simp only [sySet, reduceCtorEq, forall_const, Int.reduceToNat, Int.reduceAdd, Int.reduceSub, Int.cast_ofNat_Int, Int.toNat_natCast, Nat.le_eq, Nat.sub_eq, ne_eq, Decidable.not_not, implies_true, true_and, and_true, wadd, wsub, wmul, decide_eq_true_eq, decide_eq_false_iff_not, Nat.succ_eq_add_one, imp_false, not_false_eq_true, not_true_eq_false, false_imp_iff, true_imp_iff] at *)
        have e4 := e3 (nthLs y.ls i)
        refine ⟨by omega, allTo_step hj (by omega) (lightR_y ?_ ?_ ?_), ?_⟩
        · show ((nthRt (nthLs y.ls i).rs j).h.length : Int) ≤ 300
          omega
        · show ((nthRt (nthLs y.ls i).rs j).p.length : Int) ≤ 300
          omega
        · show ((nthRt (nthLs y.ls i).rs j).c.length : Int) ≤ 300
          omega
        · show (nthLs y.ls i).rs.length - (j + 1) < (nthLs y.ls i).rs.length - j
          omega
      · (cbv; try simp only [sat_need, sat_must, sat_ite, sat_done, sat_yes, sat_ex, sat_all, sat_sup, sat_and, sat_fail, true_and, and_true])
        (subst hL; subst hQ; simp only [L2, L3, std] at *; try simp only [sySet, reduceCtorEq, forall_const, Int.reduceToNat, Int.reduceAdd, Int.reduceSub, Int.cast_ofNat_Int, Int.toNat_natCast, Nat.le_eq, Nat.sub_eq, ne_eq, Decidable.not_not, implies_true, true_and, and_true, wadd, wsub, wmul, decide_eq_true_eq, decide_eq_false_iff_not, Nat.succ_eq_add_one, imp_false, not_false_eq_true, not_true_eq_false, false_imp_iff, true_imp_iff] at *)
        have e4 := e3 (nthLs y.ls i)
        refine ⟨by omega, allTo_step hi (by omega) (lightL_y h1 (by show ((nthLs y.ls i).rs.length : Int) ≤ 12; omega) (allTo_end hj (by show (nthLs y.ls i).rs.length ≤ j; omega))), ?_⟩
        show y.ls.length - (i + 1) < y.ls.length - i
        omega
    · (cbv; try simp only [sat_need, sat_must, sat_ite, sat_done, sat_yes, sat_ex, sat_all, sat_sup, sat_and, sat_fail, true_and, and_true])
      (subst hL; subst hQ; simp only [L2, L3, std] at *; try simp only [sySet, reduceCtorEq, forall_const, Int.reduceToNat, Int.reduceAdd, Int.reduceSub, Int.cast_ofNat_Int, Int.toNat_natCast, Nat.le_eq, Nat.sub_eq, ne_eq, Decidable.not_not, implies_true, true_and, and_true, wadd, wsub, wmul, decide_eq_true_eq, decide_eq_false_iff_not, Nat.succ_eq_add_one, imp_false, not_false_eq_true, not_true_eq_false, false_imp_iff, true_imp_iff] at *)
      exact allTo_0 _ _ _
    · cbv at hk
      (cbv; try simp only [sat_need, sat_must, sat_ite, sat_done, sat_yes, sat_ex, sat_all, sat_sup, sat_and, sat_fail, true_and, and_true])
      have e3 : ∀ z : Cl, lenW z.es = z.es.length := fun _ => rfl
      refine ⟨fun hlt2 => ⟨?_, fun h3 => ?_, fun h3 => ⟨fun h4 => ?_, fun h4 => ⟨k + 1, ?_⟩⟩⟩, fun hge2 => ?_⟩
      · (subst hL; subst hQ; simp only [L2, L3, std] at *; try simp only [sySet, reduceCtorEq, forall_const, Int.reduceToNat, Int.reduceAdd, Int.reduceSub, Int.cast_ofNat_Int, Int.toNat_natCast, Nat.le_eq, Nat.sub_eq, ne_eq, Decidable.not_not, implies_true, true_and, and_true, wadd, wsub, wmul, decide_eq_true_eq, decide_eq_false_iff_not, Nat.succ_eq_add_one, imp_false, not_false_eq_true, not_true_eq_false, false_imp_iff, true_imp_iff] at *)
        omega
      · (subst hL; subst hQ; simp only [L2, L3, std] at *; try simp only [sySet, reduceCtorEq, forall_const, Int.reduceToNat, Int.reduceAdd, Int.reduceSub, Int.cast_ofNat_Int, Int.toNat_natCast, Nat.le_eq, Nat.sub_eq, ne_eq, Decidable.not_not, implies_true, true_and, and_true, wadd, wsub, wmul, decide_eq_true_eq, decide_eq_false_iff_not, Nat.succ_eq_add_one, imp_false, not_false_eq_true, not_true_eq_false, false_imp_iff, true_imp_iff] at *)
        exact (light_no2 (allTo_no (V := clV) (i := k) (by omega) (lightC_n h3))).symm
      · (subst hL; subst hQ; simp only [L2, L3, std] at *; try simp only [sySet, reduceCtorEq, forall_const, Int.reduceToNat, Int.reduceAdd, Int.reduceSub, Int.cast_ofNat_Int, Int.toNat_natCast, Nat.le_eq, Nat.sub_eq, ne_eq, Decidable.not_not, implies_true, true_and, and_true, wadd, wsub, wmul, decide_eq_true_eq, decide_eq_false_iff_not, Nat.succ_eq_add_one, imp_false, not_false_eq_true, not_true_eq_false, false_imp_iff, true_imp_iff] at *)
        exact (light_no2 (allTo_no (V := clV) (i := k) (by omega) (lightC_e h4))).symm
      · (cbv; try simp only [sat_need, sat_must, sat_ite, sat_done, sat_yes, sat_ex, sat_all, sat_sup, sat_and, sat_fail, true_and, and_true])
        (subst hL; subst hQ; simp only [L2, L3, std] at *; try simp only [sySet, reduceCtorEq, forall_const, Int.reduceToNat, Int.reduceAdd, Int.reduceSub, Int.cast_ofNat_Int, Int.toNat_natCast, Nat.le_eq, Nat.sub_eq, ne_eq, Decidable.not_not, implies_true, true_and, and_true, wadd, wsub, wmul, decide_eq_true_eq, decide_eq_false_iff_not, Nat.succ_eq_add_one, imp_false, not_false_eq_true, not_true_eq_false, false_imp_iff, true_imp_iff] at *)
        refine ⟨by omega, allTo_step hk (by omega) (lightC_y h3 h4), ?_⟩
        show y.cs.length - (k + 1) < y.cs.length - k
        omega
      · (subst hL; subst hQ; simp only [L2, L3, std] at *; try simp only [sySet, reduceCtorEq, forall_const, Int.reduceToNat, Int.reduceAdd, Int.reduceSub, Int.cast_ofNat_Int, Int.toNat_natCast, Nat.le_eq, Nat.sub_eq, ne_eq, Decidable.not_not, implies_true, true_and, and_true, wadd, wsub, wmul, decide_eq_true_eq, decide_eq_false_iff_not, Nat.succ_eq_add_one, imp_false, not_false_eq_true, not_true_eq_false, false_imp_iff, true_imp_iff] at *)
        exact (lightF_y (by omega) (by omega) (allTo_end hi (by omega)) (allTo_end hk (by omega))).symm
end Sy
end Go.Proofs.YtckbbcjbbmgmoaaGreatDoor
namespace Go.Proofs.YtckbbcjbbmgmoaaGreatDoor
namespace Sy
open Go Go.RowKit
set_option maxRecDepth 100000
set_option linter.unusedSimpArgs false
set_option linter.unusedVariables false
theorem plEq (x y : Pl) : x = y ↔ x.a = y.a ∧ x.b = y.b ∧ x.c = y.c ∧ x.d = y.d ∧ x.p = y.p := by cases x; cases y; simp
/-! ### Equal lists -/
def eqToW {α : Type} (V : Vw α) (a b : List α) (i : Nat) : Prop := a.length = b.length ∧ i ≤ a.length ∧ ∀ j, j < i → nthW V a j = nthW V b j
theorem eqToW_0 {α : Type} {V : Vw α} {a b : List α} (h : a.length = b.length) : eqToW V a b 0 := ⟨h, Nat.zero_le _, fun j hj => by omega⟩
theorem eqToW_step {α : Type} {V : Vw α} {a b : List α} {i : Nat} (h : eqToW V a b i) (hi : i < a.length) (e : nthW V a i = nthW V b i) : eqToW V a b (i + 1) :=
  ⟨h.1, hi, fun j hj => by
    by_cases ej : j = i
    · rw [ej]; exact e
    · exact h.2.2 j (by omega)⟩
theorem eqToW_end {α : Type} {V : Vw α} {a b : List α} {i : Nat} (h : eqToW V a b i) (hi : a.length ≤ i) : a = b := by
  apply List.ext_getElem h.1
  intro j h1 h2
  have := h.2.2 j (by omega)
  rwa [nthW_at h1, nthW_at h2] at this
theorem eqToW_no {α : Type} {V : Vw α} {a b : List α} {i : Nat} (e : ¬ nthW V a i = nthW V b i) : ¬ a = b := fun h => e (by rw [h])
theorem eq_len {α : Type} {a b : List α} (h : ¬ a.length = b.length) : ¬ a = b := fun e => h (by rw [e])
def pr2S {α : Type} (f : Nat) (ok : AV → Prop) (rd : AV → α) (p : α → α → Bool) (pre : α → Prop) (L : Seal) : Ent1 := (f, fun xs => match xs with
  | [x, y] => some (L ok x ∧ L ok y ∧ L pre (L rd x) ∧ L pre (L rd y), .bool (L2 L p (L rd x) (L rd y)))
  | _ => none)
def eqlS {α : Type} (f : Nat) (ok : AV → Prop) (rd : AV → List α) (p : List α → List α → Bool) (L : Seal) : Ent1 := (f, fun xs => match xs with
  | [x, y] => some (L ok x ∧ L ok y ∧ L lenE (L rd x), .bool (L2 L p (L rd x) (L rd y)))
  | _ => none)
def eqfS {α : Type} (f g : Nat) (ok : AV → Prop) (rd : AV → List α) (p : List α → List α → Bool) (pre : List α → Prop) (L : Seal) : Ent1 := (f, fun xs => match xs with
  | [x, y, .fn k [] []] => match nbeq k g with
    | true => some (L ok x ∧ L ok y ∧ L lenE (L rd x) ∧ L pre (L rd x) ∧ L pre (L rd y), .bool (L2 L p (L rd x) (L rd y)))
    | false => none
  | _ => none)
theorem ac_g2 {α : Type} {V : Vw α} (K : VwOk V) {P : Program} {f : FuncId} {x y r : AV} {q : List AV} (ho : okG V x) (ho' : okG V y) (h : ACalls P f (.agg ((List.range V.sz).map (V.cell std (rdG V x))) :: .agg ((List.range V.sz).map (V.cell std (rdG V y))) :: q) r) : ACalls P f (x :: y :: q) r :=
  ac_args' (fun h D vs hr => rl_1 (fun v => G_R K ho) (rl_2 (fun v => G_R K ho') hr)) h
def eqlA {α : Type} (L : Seal) (inv : List α → List α → Nat → Prop) (go : List α → Nat → Nat) (l m : List α) : Nat → St → Option Ann := fun id st => match id with
  | 0 => some ⟨Nat, fun i => [(13, .int .i64 (L natI i))], fun i => [], [0, 1, 11, 12], [], fun i => L3 L inv l m i, fun i => L2 L go l i⟩
  | _ => none
def eqfA {α : Type} (L : Seal) (inv : List α → List α → Nat → Prop) (go : List α → Nat → Nat) (l m : List α) : Nat → St → Option Ann := fun id st => match id with
  | 0 => some ⟨Nat, fun i => [(17, .int .i64 (L natI i))], fun i => [], [0, 1, 2, 15, 16], [], fun i => L3 L inv l m i, fun i => L2 L go l i⟩
  | _ => none
def goEp (l : List Ep) (i : Nat) : Nat := toGo l i
def eqlRt (a b : List Rt) : Bool := decide (a = b)
def eqtRt (a b : List Rt) (i : Nat) : Prop := eqToW rtV a b i
def eqpRt (a b : Rt) : Bool := decide (a = b)
def eqlEp (a b : List Ep) : Bool := decide (a = b)
def eqtEp (a b : List Ep) (i : Nat) : Prop := eqToW epV a b i
def eqpEp (a b : Ep) : Bool := decide (a = b)
def eqlLs (a b : List Ls) : Bool := decide (a = b)
def eqtLs (a b : List Ls) (i : Nat) : Prop := eqToW lsV a b i
def eqpLs (a b : Ls) : Bool := decide (a = b)
def eqlCl (a b : List Cl) : Bool := decide (a = b)
def eqtCl (a b : List Cl) (i : Nat) : Prop := eqToW clV a b i
def eqpCl (a b : Cl) : Bool := decide (a = b)
theorem eqlRt_good : Good Tryz.prog (eqlS 60 okWRt rdWRt eqlRt std) := by
  intro xs p r h hp
  dsimp only [eqlS] at h ⊢
  split at h <;> cases h
  try simp only [L2, L3, std] at hp ⊢
  rename_i x y
  obtain ⟨ho, ho', hz⟩ := hp
  refine ac_w1 rtV_ok ho (ac_w2 rtV_ok ho' ?_)
  have hz : lenE (rdW rtV x) := hz
  show ACalls _ _ _ (.bool (eqlRt (rdW rtV x) (rdW rtV y)))
  generalize rdW rtV x = l at hz ⊢
  generalize rdW rtV y = m
  refine acalls_L' (T := tt) (S := noS) (lo := fun L => eqlA L eqtRt goRt l m) (lb := noA) 5 (fn := Tryz.f60) (xs := fun L => [lstRt L l, lstRt L m]) rfl rfl (by kernel_rfl) (by kernel_rfl) rfl tt_ok (noS_ok _) (by kernel_rfl) ?_
  intro L P' Q' hL hP hQ
  have e1 : lenW l = l.length := rfl
  have e2 : lenW m = m.length := rfl
  have hz : l.length ≤ 1000000 := hz
  (cbv; try simp only [sat_need, sat_must, sat_ite, sat_done, sat_yes, sat_ex, sat_all, sat_sup, sat_and, sat_fail, true_and, and_true])
  refine ⟨fun hne => ?_, fun heq => ⟨⟨0, ?_⟩, fun i hi => ?_⟩⟩
  · (subst hL; subst hQ; simp only [L2, L3, std] at *; try simp only [sySet, reduceCtorEq, forall_const, Int.reduceToNat, Int.reduceAdd, Int.reduceSub, Int.cast_ofNat_Int, Int.toNat_natCast, Nat.le_eq, Nat.sub_eq, ne_eq, Decidable.not_not, implies_true, true_and, and_true, wadd, wsub, wmul, decide_eq_true_eq, decide_eq_false_iff_not, Nat.succ_eq_add_one, imp_false, not_false_eq_true, not_true_eq_false, false_imp_iff, true_imp_iff] at *)
    exact (decide_eq_false (eq_len (by omega))).symm
  · (cbv; try simp only [sat_need, sat_must, sat_ite, sat_done, sat_yes, sat_ex, sat_all, sat_sup, sat_and, sat_fail, true_and, and_true])
    (subst hL; subst hQ; simp only [L2, L3, std] at *; try simp only [sySet, reduceCtorEq, forall_const, Int.reduceToNat, Int.reduceAdd, Int.reduceSub, Int.cast_ofNat_Int, Int.toNat_natCast, Nat.le_eq, Nat.sub_eq, ne_eq, Decidable.not_not, implies_true, true_and, and_true, wadd, wsub, wmul, decide_eq_true_eq, decide_eq_false_iff_not, Nat.succ_eq_add_one, imp_false, not_false_eq_true, not_true_eq_false, false_imp_iff, true_imp_iff] at *)
    exact eqToW_0 (by omega)
  · cbv at hi
    have hE : ∀ x y : Rt, L (L and (L (L seq (L Rt.h x)) (L Rt.h y))) (L (L and (L (L seq (L Rt.p x)) (L Rt.p y))) (L (L and (L (L seq (L Rt.c x)) (L Rt.c y))) (L (L and (L (L ieq (L Rt.i x)) (L Rt.i y))) true))) = eqpRt x y := by
      subst hL
      intro x y
      cases x; cases y
      rw [Bool.eq_iff_iff]
      simp [std, eqpRt, seq, ieq, and_assoc]
    (cbv; try simp only [sat_need, sat_must, sat_ite, sat_done, sat_yes, sat_ex, sat_all, sat_sup, sat_and, sat_fail, true_and, and_true])
    simp only [hE]
    refine ⟨fun hlt => ⟨?_, ?_, fun hb => ?_, fun hb => ⟨i + 1, ?_⟩⟩, fun hge => ?_⟩
    · (subst hL; subst hQ; simp only [L2, L3, std] at *; try simp only [sySet, reduceCtorEq, forall_const, Int.reduceToNat, Int.reduceAdd, Int.reduceSub, Int.cast_ofNat_Int, Int.toNat_natCast, Nat.le_eq, Nat.sub_eq, ne_eq, Decidable.not_not, implies_true, true_and, and_true, wadd, wsub, wmul, decide_eq_true_eq, decide_eq_false_iff_not, Nat.succ_eq_add_one, imp_false, not_false_eq_true, not_true_eq_false, false_imp_iff, true_imp_iff] at *)
      omega
    · (subst hL; subst hQ; simp only [L2, L3, std] at *; try simp only [sySet, reduceCtorEq, forall_const, Int.reduceToNat, Int.reduceAdd, Int.reduceSub, Int.cast_ofNat_Int, Int.toNat_natCast, Nat.le_eq, Nat.sub_eq, ne_eq, Decidable.not_not, implies_true, true_and, and_true, wadd, wsub, wmul, decide_eq_true_eq, decide_eq_false_iff_not, Nat.succ_eq_add_one, imp_false, not_false_eq_true, not_true_eq_false, false_imp_iff, true_imp_iff] at *)
      omega
    · (subst hL; subst hQ; simp only [L2, L3, std] at *; try simp only [sySet, reduceCtorEq, forall_const, Int.reduceToNat, Int.reduceAdd, Int.reduceSub, Int.cast_ofNat_Int, Int.toNat_natCast, Nat.le_eq, Nat.sub_eq, ne_eq, Decidable.not_not, implies_true, true_and, and_true, wadd, wsub, wmul, decide_eq_true_eq, decide_eq_false_iff_not, Nat.succ_eq_add_one, imp_false, not_false_eq_true, not_true_eq_false, false_imp_iff, true_imp_iff] at *)
      simp only [eqpRt, Bool.not_eq_true', decide_eq_false_iff_not] at hb
      exact (decide_eq_false (eqToW_no (V := rtV) (i := i) hb)).symm
    · (cbv; try simp only [sat_need, sat_must, sat_ite, sat_done, sat_yes, sat_ex, sat_all, sat_sup, sat_and, sat_fail, true_and, and_true])
      (subst hL; subst hQ; simp only [L2, L3, std] at *; try simp only [sySet, reduceCtorEq, forall_const, Int.reduceToNat, Int.reduceAdd, Int.reduceSub, Int.cast_ofNat_Int, Int.toNat_natCast, Nat.le_eq, Nat.sub_eq, ne_eq, Decidable.not_not, implies_true, true_and, and_true, wadd, wsub, wmul, decide_eq_true_eq, decide_eq_false_iff_not, Nat.succ_eq_add_one, imp_false, not_false_eq_true, not_true_eq_false, false_imp_iff, true_imp_iff] at *)
      simp only [eqpRt, Bool.not_eq_false', decide_eq_true_eq] at hb
      refine ⟨by omega, eqToW_step hi (by omega) hb, ?_⟩
      show l.length - (i + 1) < l.length - i
      omega
    · (subst hL; subst hQ; simp only [L2, L3, std] at *; try simp only [sySet, reduceCtorEq, forall_const, Int.reduceToNat, Int.reduceAdd, Int.reduceSub, Int.cast_ofNat_Int, Int.toNat_natCast, Nat.le_eq, Nat.sub_eq, ne_eq, Decidable.not_not, implies_true, true_and, and_true, wadd, wsub, wmul, decide_eq_true_eq, decide_eq_false_iff_not, Nat.succ_eq_add_one, imp_false, not_false_eq_true, not_true_eq_false, false_imp_iff, true_imp_iff] at *)
      exact (decide_eq_true (eqToW_end hi (by omega))).symm
theorem eqlEp_good : Good Tryz.prog (eqlS 63 okWEp rdWEp eqlEp std) := by
  intro xs p r h hp
  dsimp only [eqlS] at h ⊢
  split at h <;> cases h
  try simp only [L2, L3, std] at hp ⊢
  rename_i x y
  obtain ⟨ho, ho', hz⟩ := hp
  refine ac_w1 epV_ok ho (ac_w2 epV_ok ho' ?_)
  have hz : lenE (rdW epV x) := hz
  show ACalls _ _ _ (.bool (eqlEp (rdW epV x) (rdW epV y)))
  generalize rdW epV x = l at hz ⊢
  generalize rdW epV y = m
  refine acalls_L' (T := tt) (S := noS) (lo := fun L => eqlA L eqtEp goEp l m) (lb := noA) 5 (fn := Tryz.f63) (xs := fun L => [lstEp L l, lstEp L m]) rfl rfl (by kernel_rfl) (by kernel_rfl) rfl tt_ok (noS_ok _) (by kernel_rfl) ?_
  intro L P' Q' hL hP hQ
  have e1 : lenW l = l.length := rfl
  have e2 : lenW m = m.length := rfl
  have hz : l.length ≤ 1000000 := hz
  (cbv; try simp only [sat_need, sat_must, sat_ite, sat_done, sat_yes, sat_ex, sat_all, sat_sup, sat_and, sat_fail, true_and, and_true])
  refine ⟨fun hne => ?_, fun heq => ⟨⟨0, ?_⟩, fun i hi => ?_⟩⟩
  · (subst hL; subst hQ; simp only [L2, L3, std] at *; try simp only [sySet, reduceCtorEq, forall_const, Int.reduceToNat, Int.reduceAdd, Int.reduceSub, Int.cast_ofNat_Int, Int.toNat_natCast, Nat.le_eq, Nat.sub_eq, ne_eq, Decidable.not_not, implies_true, true_and, and_true, wadd, wsub, wmul, decide_eq_true_eq, decide_eq_false_iff_not, Nat.succ_eq_add_one, imp_false, not_false_eq_true, not_true_eq_false, false_imp_iff, true_imp_iff] at *)
    exact (decide_eq_false (eq_len (by omega))).symm
  · (cbv; try simp only [sat_need, sat_must, sat_ite, sat_done, sat_yes, sat_ex, sat_all, sat_sup, sat_and, sat_fail, true_and, and_true])
    (subst hL; subst hQ; simp only [L2, L3, std] at *; try simp only [sySet, reduceCtorEq, forall_const, Int.reduceToNat, Int.reduceAdd, Int.reduceSub, Int.cast_ofNat_Int, Int.toNat_natCast, Nat.le_eq, Nat.sub_eq, ne_eq, Decidable.not_not, implies_true, true_and, and_true, wadd, wsub, wmul, decide_eq_true_eq, decide_eq_false_iff_not, Nat.succ_eq_add_one, imp_false, not_false_eq_true, not_true_eq_false, false_imp_iff, true_imp_iff] at *)
    exact eqToW_0 (by omega)
  · cbv at hi
    have hE : ∀ x y : Ep, L (L and (L (L and (L (L and (L (L ieq (L Pl.a (L Ep.pl x))) (L Pl.a (L Ep.pl y)))) (L (L and (L (L ieq (L Pl.b (L Ep.pl x))) (L Pl.b (L Ep.pl y)))) (L (L and (L (L ieq (L Pl.c (L Ep.pl x))) (L Pl.c (L Ep.pl y)))) (L (L and (L (L ieq (L Pl.d (L Ep.pl x))) (L Pl.d (L Ep.pl y)))) true))))) (L (L and (L (L ieq (L Pl.p (L Ep.pl x))) (L Pl.p (L Ep.pl y)))) true))) (L (L and (L (L ieq (L Ep.w x)) (L Ep.w y))) true) = eqpEp x y := by
      subst hL
      intro x y
      cases x; cases y
      rw [Bool.eq_iff_iff]
      simp [std, eqpEp, plEq, seq, ieq, and_assoc]
    (cbv; try simp only [sat_need, sat_must, sat_ite, sat_done, sat_yes, sat_ex, sat_all, sat_sup, sat_and, sat_fail, true_and, and_true])
    simp only [hE]
    refine ⟨fun hlt => ⟨?_, ?_, fun hb => ?_, fun hb => ⟨i + 1, ?_⟩⟩, fun hge => ?_⟩
    · (subst hL; subst hQ; simp only [L2, L3, std] at *; try simp only [sySet, reduceCtorEq, forall_const, Int.reduceToNat, Int.reduceAdd, Int.reduceSub, Int.cast_ofNat_Int, Int.toNat_natCast, Nat.le_eq, Nat.sub_eq, ne_eq, Decidable.not_not, implies_true, true_and, and_true, wadd, wsub, wmul, decide_eq_true_eq, decide_eq_false_iff_not, Nat.succ_eq_add_one, imp_false, not_false_eq_true, not_true_eq_false, false_imp_iff, true_imp_iff] at *)
      omega
    · (subst hL; subst hQ; simp only [L2, L3, std] at *; try simp only [sySet, reduceCtorEq, forall_const, Int.reduceToNat, Int.reduceAdd, Int.reduceSub, Int.cast_ofNat_Int, Int.toNat_natCast, Nat.le_eq, Nat.sub_eq, ne_eq, Decidable.not_not, implies_true, true_and, and_true, wadd, wsub, wmul, decide_eq_true_eq, decide_eq_false_iff_not, Nat.succ_eq_add_one, imp_false, not_false_eq_true, not_true_eq_false, false_imp_iff, true_imp_iff] at *)
      omega
    · (subst hL; subst hQ; simp only [L2, L3, std] at *; try simp only [sySet, reduceCtorEq, forall_const, Int.reduceToNat, Int.reduceAdd, Int.reduceSub, Int.cast_ofNat_Int, Int.toNat_natCast, Nat.le_eq, Nat.sub_eq, ne_eq, Decidable.not_not, implies_true, true_and, and_true, wadd, wsub, wmul, decide_eq_true_eq, decide_eq_false_iff_not, Nat.succ_eq_add_one, imp_false, not_false_eq_true, not_true_eq_false, false_imp_iff, true_imp_iff] at *)
      simp only [eqpEp, Bool.not_eq_true', decide_eq_false_iff_not] at hb
      exact (decide_eq_false (eqToW_no (V := epV) (i := i) hb)).symm
    · (cbv; try simp only [sat_need, sat_must, sat_ite, sat_done, sat_yes, sat_ex, sat_all, sat_sup, sat_and, sat_fail, true_and, and_true])
      (subst hL; subst hQ; simp only [L2, L3, std] at *; try simp only [sySet, reduceCtorEq, forall_const, Int.reduceToNat, Int.reduceAdd, Int.reduceSub, Int.cast_ofNat_Int, Int.toNat_natCast, Nat.le_eq, Nat.sub_eq, ne_eq, Decidable.not_not, implies_true, true_and, and_true, wadd, wsub, wmul, decide_eq_true_eq, decide_eq_false_iff_not, Nat.succ_eq_add_one, imp_false, not_false_eq_true, not_true_eq_false, false_imp_iff, true_imp_iff] at *)
      simp only [eqpEp, Bool.not_eq_false', decide_eq_true_eq] at hb
      refine ⟨by omega, eqToW_step hi (by omega) hb, ?_⟩
      show l.length - (i + 1) < l.length - i
      omega
    · (subst hL; subst hQ; simp only [L2, L3, std] at *; try simp only [sySet, reduceCtorEq, forall_const, Int.reduceToNat, Int.reduceAdd, Int.reduceSub, Int.cast_ofNat_Int, Int.toNat_natCast, Nat.le_eq, Nat.sub_eq, ne_eq, Decidable.not_not, implies_true, true_and, and_true, wadd, wsub, wmul, decide_eq_true_eq, decide_eq_false_iff_not, Nat.succ_eq_add_one, imp_false, not_false_eq_true, not_true_eq_false, false_imp_iff, true_imp_iff] at *)
      exact (decide_eq_true (eqToW_end hi (by omega))).symm
def samePL (x : Ls) : Prop := lenE x.rs
def samePC (x : Cl) : Prop := lenE x.es
def samePLs (l : List Ls) : Prop := allE samePL l
def samePCl (l : List Cl) : Prop := allE samePC l
theorem eqpLs_good : Good Tryz.prog (pr2S 59 okGLs rdGLs eqpLs samePL std) := by
  intro xs p r h hp
  dsimp only [pr2S] at h ⊢
  split at h <;> cases h
  try simp only [L2, L3, std] at hp ⊢
  rename_i x x'
  refine ac_g2 lsV_ok hp.1 hp.2.1 ?_
  have hp1 := hp.2.2.1
  have hp2 := hp.2.2.2
  show ACalls _ _ _ (.bool (eqpLs (rdG lsV x) (rdG lsV x')))
  have hp1 : samePL (rdG lsV x) := hp1
  have hp2 : samePL (rdG lsV x') := hp2
  generalize rdG lsV x = y at hp1 ⊢
  generalize rdG lsV x' = z at hp2 ⊢
  refine acalls_L' (T := tt) (S := fun L => sumOf [eqlS 60 okWRt rdWRt eqlRt L]) (lo := fun _ => noA std) (lb := noA) 5 (fn := Tryz.f59) (xs := fun L => [.agg [.str (L Ls.n y), .int .u8 (L Pl.a (L Ls.pl y)), .int .u8 (L Pl.b (L Ls.pl y)), .int .u8 (L Pl.c (L Ls.pl y)), .int .u8 (L Pl.d (L Ls.pl y)), .int .u16 (L Pl.p (L Ls.pl y)), .lst 4 (L lenW (L Ls.rs y)) (fun i => rtC L (L (L nthRt (L Ls.rs y)) i))], .agg [.str (L Ls.n z), .int .u8 (L Pl.a (L Ls.pl z)), .int .u8 (L Pl.b (L Ls.pl z)), .int .u8 (L Pl.c (L Ls.pl z)), .int .u8 (L Pl.d (L Ls.pl z)), .int .u16 (L Pl.p (L Ls.pl z)), .lst 4 (L lenW (L Ls.rs z)) (fun i => rtC L (L (L nthRt (L Ls.rs z)) i))]]) rfl rfl (by kernel_rfl) (by kernel_rfl) rfl tt_ok (sumOf_ok ⟨eqlRt_good, trivial⟩) (by kernel_rfl) ?_
  intro L P' Q' hL hP hQ
  (cbv; try simp only [sat_need, sat_must, sat_ite, sat_done, sat_yes, sat_ex, sat_all, sat_sup, sat_and, sat_fail, true_and, and_true])
  (subst hL; subst hQ; simp only [L2, L3, std] at *; try simp only [sySet, reduceCtorEq, forall_const, Int.reduceToNat, Int.reduceAdd, Int.reduceSub, Int.cast_ofNat_Int, Int.toNat_natCast, Nat.le_eq, Nat.sub_eq, ne_eq, Decidable.not_not, implies_true, true_and, and_true, wadd, wsub, wmul, decide_eq_true_eq, decide_eq_false_iff_not, Nat.succ_eq_add_one, imp_false, not_false_eq_true, not_true_eq_false, false_imp_iff, true_imp_iff] at *)
  simp only [rdwRt]
  refine ⟨fun h1 => ⟨fun h2 => ⟨⟨okwRt _, okwRt _, hp1⟩, ?_⟩, fun h2 => ?_⟩, fun h1 => ?_⟩
  · have h2 : y.pl = z.pl := (plEq _ _).2 ⟨h2.1.1, h2.1.2.1, h2.1.2.2.1, h2.1.2.2.2, h2.2⟩
    cases y; cases z
    simp only [eqlRt, eqpLs, Ls.mk.injEq] at *
    rw [decide_eq_decide]
    simp [h1, h2]
  · refine (decide_eq_false fun e => ?_).symm
    subst e
    exact h2 ⟨rfl, rfl, rfl, rfl⟩ rfl
  · exact (decide_eq_false fun e => h1 (by rw [e])).symm
theorem eqpCl_good : Good Tryz.prog (pr2S 62 okGCl rdGCl eqpCl samePC std) := by
  intro xs p r h hp
  dsimp only [pr2S] at h ⊢
  split at h <;> cases h
  try simp only [L2, L3, std] at hp ⊢
  rename_i x x'
  refine ac_g2 clV_ok hp.1 hp.2.1 ?_
  have hp1 := hp.2.2.1
  have hp2 := hp.2.2.2
  show ACalls _ _ _ (.bool (eqpCl (rdG clV x) (rdG clV x')))
  have hp1 : samePC (rdG clV x) := hp1
  have hp2 : samePC (rdG clV x') := hp2
  generalize rdG clV x = y at hp1 ⊢
  generalize rdG clV x' = z at hp2 ⊢
  refine acalls_L' (T := tt) (S := fun L => sumOf [eqlS 63 okWEp rdWEp eqlEp L]) (lo := fun _ => noA std) (lb := noA) 5 (fn := Tryz.f62) (xs := fun L => [.agg [.str (L Cl.n y), .lst 6 (L lenW (L Cl.es y)) (fun i => epC L (L (L nthEp (L Cl.es y)) i))], .agg [.str (L Cl.n z), .lst 6 (L lenW (L Cl.es z)) (fun i => epC L (L (L nthEp (L Cl.es z)) i))]]) rfl rfl (by kernel_rfl) (by kernel_rfl) rfl tt_ok (sumOf_ok ⟨eqlEp_good, trivial⟩) (by kernel_rfl) ?_
  intro L P' Q' hL hP hQ
  (cbv; try simp only [sat_need, sat_must, sat_ite, sat_done, sat_yes, sat_ex, sat_all, sat_sup, sat_and, sat_fail, true_and, and_true])
  (subst hL; subst hQ; simp only [L2, L3, std] at *; try simp only [sySet, reduceCtorEq, forall_const, Int.reduceToNat, Int.reduceAdd, Int.reduceSub, Int.cast_ofNat_Int, Int.toNat_natCast, Nat.le_eq, Nat.sub_eq, ne_eq, Decidable.not_not, implies_true, true_and, and_true, wadd, wsub, wmul, decide_eq_true_eq, decide_eq_false_iff_not, Nat.succ_eq_add_one, imp_false, not_false_eq_true, not_true_eq_false, false_imp_iff, true_imp_iff] at *)
  simp only [rdwEp]
  refine ⟨fun h1 => ⟨⟨okwEp _, okwEp _, hp1⟩, ?_⟩, fun h1 => ?_⟩
  · cases y; cases z
    simp only [eqlEp, eqpCl, Cl.mk.injEq] at *
    rw [decide_eq_decide]
    simp [h1]
  · exact (decide_eq_false fun e => h1 (by rw [e])).symm
theorem eqfLs_good : Good Tryz.prog (eqfS 58 59 okWLs rdWLs eqlLs samePLs std) := by
  intro xs p r h hp
  unfold eqfS at h
  simp only at h
  split at h
  rotate_left
  · cases h
  rename_i x y k
  cases hk : nbeq k 59 with
  | false => rw [hk] at h; cases h
  | true =>
  rw [hk] at h
  obtain rfl : k = 59 := of_decide_eq_true hk
  cases h
  obtain ⟨ho, ho', hz, h1, h2⟩ := hp
  refine ac_w1 lsV_ok ho (ac_w2 lsV_ok ho' ?_)
  have hz : lenE (rdW lsV x) := hz
  have h1 : samePLs (rdW lsV x) := h1
  have h2 : samePLs (rdW lsV y) := h2
  show ACalls _ _ _ (.bool (eqlLs (rdW lsV x) (rdW lsV y)))
  generalize rdW lsV x = l at hz h1 ⊢
  generalize rdW lsV y = m at h2 ⊢
  refine acalls_L' (T := tt) (S := fun L => sumOf [pr2S 59 okGLs rdGLs eqpLs samePL L]) (lo := fun L => eqfA L eqtLs goLs l m) (lb := noA) 5 (fn := Tryz.f58) (xs := fun L => [lstLs L l, lstLs L m, .fn 59 [] []]) rfl rfl (by kernel_rfl) (by kernel_rfl) rfl tt_ok (sumOf_ok ⟨eqpLs_good, trivial⟩) (by kernel_rfl) ?_
  intro L P' Q' hL hP hQ
  have e1 : lenW l = l.length := rfl
  have e2 : lenW m = m.length := rfl
  have hz : l.length ≤ 1000000 := hz
  (cbv; try simp only [sat_need, sat_must, sat_ite, sat_done, sat_yes, sat_ex, sat_all, sat_sup, sat_and, sat_fail, true_and, and_true])
  refine ⟨fun hne => ?_, fun heq => ⟨⟨0, ?_⟩, fun i hi => ?_⟩⟩
  · (subst hL; subst hQ; simp only [L2, L3, std] at *; try simp only [sySet, reduceCtorEq, forall_const, Int.reduceToNat, Int.reduceAdd, Int.reduceSub, Int.cast_ofNat_Int, Int.toNat_natCast, Nat.le_eq, Nat.sub_eq, ne_eq, Decidable.not_not, implies_true, true_and, and_true, wadd, wsub, wmul, decide_eq_true_eq, decide_eq_false_iff_not, Nat.succ_eq_add_one, imp_false, not_false_eq_true, not_true_eq_false, false_imp_iff, true_imp_iff] at *)
    exact (decide_eq_false (eq_len (by omega))).symm
  · (cbv; try simp only [sat_need, sat_must, sat_ite, sat_done, sat_yes, sat_ex, sat_all, sat_sup, sat_and, sat_fail, true_and, and_true])
    (subst hL; subst hQ; simp only [L2, L3, std] at *; try simp only [sySet, reduceCtorEq, forall_const, Int.reduceToNat, Int.reduceAdd, Int.reduceSub, Int.cast_ofNat_Int, Int.toNat_natCast, Nat.le_eq, Nat.sub_eq, ne_eq, Decidable.not_not, implies_true, true_and, and_true, wadd, wsub, wmul, decide_eq_true_eq, decide_eq_false_iff_not, Nat.succ_eq_add_one, imp_false, not_false_eq_true, not_true_eq_false, false_imp_iff, true_imp_iff] at *)
    exact eqToW_0 (by omega)
  · cbv at hi
    have hG : ∀ y : Ls, L rdGLs (.agg [.str (L Ls.n y), .int .u8 (L Pl.a (L Ls.pl y)), .int .u8 (L Pl.b (L Ls.pl y)), .int .u8 (L Pl.c (L Ls.pl y)), .int .u8 (L Pl.d (L Ls.pl y)), .int .u16 (L Pl.p (L Ls.pl y)), .lst 4 (L lenW (L Ls.rs y)) (fun i => rtC L (L (L nthRt (L Ls.rs y)) i))]) = y := by subst hL; exact fun y => (gK lsV_ok y _ rfl).2
    have hO : ∀ y : Ls, L okGLs (.agg [.str (L Ls.n y), .int .u8 (L Pl.a (L Ls.pl y)), .int .u8 (L Pl.b (L Ls.pl y)), .int .u8 (L Pl.c (L Ls.pl y)), .int .u8 (L Pl.d (L Ls.pl y)), .int .u16 (L Pl.p (L Ls.pl y)), .lst 4 (L lenW (L Ls.rs y)) (fun i => rtC L (L (L nthRt (L Ls.rs y)) i))]) := by subst hL; exact fun y => (gK lsV_ok y _ rfl).1
    (cbv; try simp only [sat_need, sat_must, sat_ite, sat_done, sat_yes, sat_ex, sat_all, sat_sup, sat_and, sat_fail, true_and, and_true])
    simp only [hG, hO, true_and]
    refine ⟨fun hlt => ⟨?_, ?_, ⟨?_, ?_⟩, fun hb => ?_, fun hb => ⟨i + 1, ?_⟩⟩, fun hge => ?_⟩
    · (subst hL; subst hQ; simp only [L2, L3, std] at *; try simp only [sySet, reduceCtorEq, forall_const, Int.reduceToNat, Int.reduceAdd, Int.reduceSub, Int.cast_ofNat_Int, Int.toNat_natCast, Nat.le_eq, Nat.sub_eq, ne_eq, Decidable.not_not, implies_true, true_and, and_true, wadd, wsub, wmul, decide_eq_true_eq, decide_eq_false_iff_not, Nat.succ_eq_add_one, imp_false, not_false_eq_true, not_true_eq_false, false_imp_iff, true_imp_iff] at *)
      omega
    · (subst hL; subst hQ; simp only [L2, L3, std] at *; try simp only [sySet, reduceCtorEq, forall_const, Int.reduceToNat, Int.reduceAdd, Int.reduceSub, Int.cast_ofNat_Int, Int.toNat_natCast, Nat.le_eq, Nat.sub_eq, ne_eq, Decidable.not_not, implies_true, true_and, and_true, wadd, wsub, wmul, decide_eq_true_eq, decide_eq_false_iff_not, Nat.succ_eq_add_one, imp_false, not_false_eq_true, not_true_eq_false, false_imp_iff, true_imp_iff] at *)
      omega
    · (subst hL; subst hQ; simp only [L2, L3, std] at *; try simp only [sySet, reduceCtorEq, forall_const, Int.reduceToNat, Int.reduceAdd, Int.reduceSub, Int.cast_ofNat_Int, Int.toNat_natCast, Nat.le_eq, Nat.sub_eq, ne_eq, Decidable.not_not, implies_true, true_and, and_true, wadd, wsub, wmul, decide_eq_true_eq, decide_eq_false_iff_not, Nat.succ_eq_add_one, imp_false, not_false_eq_true, not_true_eq_false, false_imp_iff, true_imp_iff] at *)
      exact h1 _ (by rw [nthLs, nthW_at (V := lsV) (by omega)]; exact List.getElem_mem _)
    · (subst hL; subst hQ; simp only [L2, L3, std] at *; try simp only [sySet, reduceCtorEq, forall_const, Int.reduceToNat, Int.reduceAdd, Int.reduceSub, Int.cast_ofNat_Int, Int.toNat_natCast, Nat.le_eq, Nat.sub_eq, ne_eq, Decidable.not_not, implies_true, true_and, and_true, wadd, wsub, wmul, decide_eq_true_eq, decide_eq_false_iff_not, Nat.succ_eq_add_one, imp_false, not_false_eq_true, not_true_eq_false, false_imp_iff, true_imp_iff] at *)
      exact h2 _ (by rw [nthLs, nthW_at (V := lsV) (by omega)]; exact List.getElem_mem _)
    · (subst hL; subst hQ; simp only [L2, L3, std] at *; try simp only [sySet, reduceCtorEq, forall_const, Int.reduceToNat, Int.reduceAdd, Int.reduceSub, Int.cast_ofNat_Int, Int.toNat_natCast, Nat.le_eq, Nat.sub_eq, ne_eq, Decidable.not_not, implies_true, true_and, and_true, wadd, wsub, wmul, decide_eq_true_eq, decide_eq_false_iff_not, Nat.succ_eq_add_one, imp_false, not_false_eq_true, not_true_eq_false, false_imp_iff, true_imp_iff] at *)
      simp only [eqpLs, Bool.not_eq_true', decide_eq_false_iff_not] at hb
      exact (decide_eq_false (eqToW_no (V := lsV) (i := i) hb)).symm
    · (cbv; try simp only [sat_need, sat_must, sat_ite, sat_done, sat_yes, sat_ex, sat_all, sat_sup, sat_and, sat_fail, true_and, and_true])
      try simp only [hG]
      (subst hL; subst hQ; simp only [L2, L3, std] at *; try simp only [sySet, reduceCtorEq, forall_const, Int.reduceToNat, Int.reduceAdd, Int.reduceSub, Int.cast_ofNat_Int, Int.toNat_natCast, Nat.le_eq, Nat.sub_eq, ne_eq, Decidable.not_not, implies_true, true_and, and_true, wadd, wsub, wmul, decide_eq_true_eq, decide_eq_false_iff_not, Nat.succ_eq_add_one, imp_false, not_false_eq_true, not_true_eq_false, false_imp_iff, true_imp_iff] at *)
      simp only [eqpLs, Bool.not_eq_false', decide_eq_true_eq] at hb
      refine ⟨by omega, eqToW_step hi (by omega) hb, ?_⟩
      show l.length - (i + 1) < l.length - i
      omega
    · (subst hL; subst hQ; simp only [L2, L3, std] at *; try simp only [sySet, reduceCtorEq, forall_const, Int.reduceToNat, Int.reduceAdd, Int.reduceSub, Int.cast_ofNat_Int, Int.toNat_natCast, Nat.le_eq, Nat.sub_eq, ne_eq, Decidable.not_not, implies_true, true_and, and_true, wadd, wsub, wmul, decide_eq_true_eq, decide_eq_false_iff_not, Nat.succ_eq_add_one, imp_false, not_false_eq_true, not_true_eq_false, false_imp_iff, true_imp_iff] at *)
      exact (decide_eq_true (eqToW_end hi (by omega))).symm
theorem eqfCl_good : Good Tryz.prog (eqfS 61 62 okWCl rdWCl eqlCl samePCl std) := by
  intro xs p r h hp
  unfold eqfS at h
  simp only at h
  split at h
  rotate_left
  · cases h
  rename_i x y k
  cases hk : nbeq k 62 with
  | false => rw [hk] at h; cases h
  | true =>
  rw [hk] at h
  obtain rfl : k = 62 := of_decide_eq_true hk
  cases h
  obtain ⟨ho, ho', hz, h1, h2⟩ := hp
  refine ac_w1 clV_ok ho (ac_w2 clV_ok ho' ?_)
  have hz : lenE (rdW clV x) := hz
  have h1 : samePCl (rdW clV x) := h1
  have h2 : samePCl (rdW clV y) := h2
  show ACalls _ _ _ (.bool (eqlCl (rdW clV x) (rdW clV y)))
  generalize rdW clV x = l at hz h1 ⊢
  generalize rdW clV y = m at h2 ⊢
  refine acalls_L' (T := tt) (S := fun L => sumOf [pr2S 62 okGCl rdGCl eqpCl samePC L]) (lo := fun L => eqfA L eqtCl goCl l m) (lb := noA) 5 (fn := Tryz.f61) (xs := fun L => [lstCl L l, lstCl L m, .fn 62 [] []]) rfl rfl (by kernel_rfl) (by kernel_rfl) rfl tt_ok (sumOf_ok ⟨eqpCl_good, trivial⟩) (by kernel_rfl) ?_
  intro L P' Q' hL hP hQ
  have e1 : lenW l = l.length := rfl
  have e2 : lenW m = m.length := rfl
  have hz : l.length ≤ 1000000 := hz
  (cbv; try simp only [sat_need, sat_must, sat_ite, sat_done, sat_yes, sat_ex, sat_all, sat_sup, sat_and, sat_fail, true_and, and_true])
  refine ⟨fun hne => ?_, fun heq => ⟨⟨0, ?_⟩, fun i hi => ?_⟩⟩
  · (subst hL; subst hQ; simp only [L2, L3, std] at *; try simp only [sySet, reduceCtorEq, forall_const, Int.reduceToNat, Int.reduceAdd, Int.reduceSub, Int.cast_ofNat_Int, Int.toNat_natCast, Nat.le_eq, Nat.sub_eq, ne_eq, Decidable.not_not, implies_true, true_and, and_true, wadd, wsub, wmul, decide_eq_true_eq, decide_eq_false_iff_not, Nat.succ_eq_add_one, imp_false, not_false_eq_true, not_true_eq_false, false_imp_iff, true_imp_iff] at *)
    exact (decide_eq_false (eq_len (by omega))).symm
  · (cbv; try simp only [sat_need, sat_must, sat_ite, sat_done, sat_yes, sat_ex, sat_all, sat_sup, sat_and, sat_fail, true_and, and_true])
    (subst hL; subst hQ; simp only [L2, L3, std] at *; try simp only [sySet, reduceCtorEq, forall_const, Int.reduceToNat, Int.reduceAdd, Int.reduceSub, Int.cast_ofNat_Int, Int.toNat_natCast, Nat.le_eq, Nat.sub_eq, ne_eq, Decidable.not_not, implies_true, true_and, and_true, wadd, wsub, wmul, decide_eq_true_eq, decide_eq_false_iff_not, Nat.succ_eq_add_one, imp_false, not_false_eq_true, not_true_eq_false, false_imp_iff, true_imp_iff] at *)
    exact eqToW_0 (by omega)
  · cbv at hi
    have hG : ∀ y : Cl, L rdGCl (.agg [.str (L Cl.n y), .lst 6 (L lenW (L Cl.es y)) (fun i => epC L (L (L nthEp (L Cl.es y)) i))]) = y := by subst hL; exact fun y => (gK clV_ok y _ rfl).2
    have hO : ∀ y : Cl, L okGCl (.agg [.str (L Cl.n y), .lst 6 (L lenW (L Cl.es y)) (fun i => epC L (L (L nthEp (L Cl.es y)) i))]) := by subst hL; exact fun y => (gK clV_ok y _ rfl).1
    (cbv; try simp only [sat_need, sat_must, sat_ite, sat_done, sat_yes, sat_ex, sat_all, sat_sup, sat_and, sat_fail, true_and, and_true])
    simp only [hG, hO, true_and]
    refine ⟨fun hlt => ⟨?_, ?_, ⟨?_, ?_⟩, fun hb => ?_, fun hb => ⟨i + 1, ?_⟩⟩, fun hge => ?_⟩
    · (subst hL; subst hQ; simp only [L2, L3, std] at *; try simp only [sySet, reduceCtorEq, forall_const, Int.reduceToNat, Int.reduceAdd, Int.reduceSub, Int.cast_ofNat_Int, Int.toNat_natCast, Nat.le_eq, Nat.sub_eq, ne_eq, Decidable.not_not, implies_true, true_and, and_true, wadd, wsub, wmul, decide_eq_true_eq, decide_eq_false_iff_not, Nat.succ_eq_add_one, imp_false, not_false_eq_true, not_true_eq_false, false_imp_iff, true_imp_iff] at *)
      omega
    · (subst hL; subst hQ; simp only [L2, L3, std] at *; try simp only [sySet, reduceCtorEq, forall_const, Int.reduceToNat, Int.reduceAdd, Int.reduceSub, Int.cast_ofNat_Int, Int.toNat_natCast, Nat.le_eq, Nat.sub_eq, ne_eq, Decidable.not_not, implies_true, true_and, and_true, wadd, wsub, wmul, decide_eq_true_eq, decide_eq_false_iff_not, Nat.succ_eq_add_one, imp_false, not_false_eq_true, not_true_eq_false, false_imp_iff, true_imp_iff] at *)
      omega
    · (subst hL; subst hQ; simp only [L2, L3, std] at *; try simp only [sySet, reduceCtorEq, forall_const, Int.reduceToNat, Int.reduceAdd, Int.reduceSub, Int.cast_ofNat_Int, Int.toNat_natCast, Nat.le_eq, Nat.sub_eq, ne_eq, Decidable.not_not, implies_true, true_and, and_true, wadd, wsub, wmul, decide_eq_true_eq, decide_eq_false_iff_not, Nat.succ_eq_add_one, imp_false, not_false_eq_true, not_true_eq_false, false_imp_iff, true_imp_iff] at *)
      exact h1 _ (by rw [nthCl, nthW_at (V := clV) (by omega)]; exact List.getElem_mem _)
    · (subst hL; subst hQ; simp only [L2, L3, std] at *; try simp only [sySet, reduceCtorEq, forall_const, Int.reduceToNat, Int.reduceAdd, Int.reduceSub, Int.cast_ofNat_Int, Int.toNat_natCast, Nat.le_eq, Nat.sub_eq, ne_eq, Decidable.not_not, implies_true, true_and, and_true, wadd, wsub, wmul, decide_eq_true_eq, decide_eq_false_iff_not, Nat.succ_eq_add_one, imp_false, not_false_eq_true, not_true_eq_false, false_imp_iff, true_imp_iff] at *)
      exact h2 _ (by rw [nthCl, nthW_at (V := clV) (by omega)]; exact List.getElem_mem _)
    · (subst hL; subst hQ; simp only [L2, L3, std] at *; try simp only [sySet, reduceCtorEq, forall_const, Int.reduceToNat, Int.reduceAdd, Int.reduceSub, Int.cast_ofNat_Int, Int.toNat_natCast, Nat.le_eq, Nat.sub_eq, ne_eq, Decidable.not_not, implies_true, true_and, and_true, wadd, wsub, wmul, decide_eq_true_eq, decide_eq_false_iff_not, Nat.succ_eq_add_one, imp_false, not_false_eq_true, not_true_eq_false, false_imp_iff, true_imp_iff] at *)
      simp only [eqpCl, Bool.not_eq_true', decide_eq_false_iff_not] at hb
      exact (decide_eq_false (eqToW_no (V := clV) (i := i) hb)).symm
    · (cbv; try simp only [sat_need, sat_must, sat_ite, sat_done, sat_yes, sat_ex, sat_all, sat_sup, sat_and, sat_fail, true_and, and_true])
      try simp only [hG]
      (subst hL; subst hQ; simp only [L2, L3, std] at *; try simp only [sySet, reduceCtorEq, forall_const, Int.reduceToNat, Int.reduceAdd, Int.reduceSub, Int.cast_ofNat_Int, Int.toNat_natCast, Nat.le_eq, Nat.sub_eq, ne_eq, Decidable.not_not, implies_true, true_and, and_true, wadd, wsub, wmul, decide_eq_true_eq, decide_eq_false_iff_not, Nat.succ_eq_add_one, imp_false, not_false_eq_true, not_true_eq_false, false_imp_iff, true_imp_iff] at *)
      simp only [eqpCl, Bool.not_eq_false', decide_eq_true_eq] at hb
      refine ⟨by omega, eqToW_step hi (by omega) hb, ?_⟩
      show l.length - (i + 1) < l.length - i
      omega
    · (subst hL; subst hQ; simp only [L2, L3, std] at *; try simp only [sySet, reduceCtorEq, forall_const, Int.reduceToNat, Int.reduceAdd, Int.reduceSub, Int.cast_ofNat_Int, Int.toNat_natCast, Nat.le_eq, Nat.sub_eq, ne_eq, Decidable.not_not, implies_true, true_and, and_true, wadd, wsub, wmul, decide_eq_true_eq, decide_eq_false_iff_not, Nat.succ_eq_add_one, imp_false, not_false_eq_true, not_true_eq_false, false_imp_iff, true_imp_iff] at *)
      exact (decide_eq_true (eqToW_end hi (by omega))).symm
def eqpCf (a b : Cf) : Bool := decide (a = b)
def samePF (x : Cf) : Prop := lenE x.ls ∧ lenE x.cs ∧ samePLs x.ls ∧ samePCl x.cs
theorem eqpCf_good : Good Tryz.prog (pr2S 14 okGCf rdGCf eqpCf samePF std) := by
  intro xs p r h hp
  dsimp only [pr2S] at h ⊢
  split at h <;> cases h
  try simp only [L2, L3, std] at hp ⊢
  rename_i x x'
  refine ac_g2 cfV_ok hp.1 hp.2.1 ?_
  have hp1 := hp.2.2.1
  have hp2 := hp.2.2.2
  show ACalls _ _ _ (.bool (eqpCf (rdG cfV x) (rdG cfV x')))
  have hp1 : samePF (rdG cfV x) := hp1
  have hp2 : samePF (rdG cfV x') := hp2
  generalize rdG cfV x = y at hp1 ⊢
  generalize rdG cfV x' = z at hp2 ⊢
  refine acalls_L' (T := tt) (S := fun L => sumOf [eqfS 58 59 okWLs rdWLs eqlLs samePLs L, eqfS 61 62 okWCl rdWCl eqlCl samePCl L]) (lo := fun _ => noA std) (lb := noA) 5 (fn := Tryz.f14) (xs := fun L => [.agg [.int .u64 (L Cf.v y), .lst 7 (L lenW (L Cf.ls y)) (fun i => lsC L (L (L nthLs (L Cf.ls y)) i)), .lst 2 (L lenW (L Cf.cs y)) (fun i => clC L (L (L nthCl (L Cf.cs y)) i))], .agg [.int .u64 (L Cf.v z), .lst 7 (L lenW (L Cf.ls z)) (fun i => lsC L (L (L nthLs (L Cf.ls z)) i)), .lst 2 (L lenW (L Cf.cs z)) (fun i => clC L (L (L nthCl (L Cf.cs z)) i))]]) rfl rfl (by kernel_rfl) (by kernel_rfl) rfl tt_ok (sumOf_ok ⟨eqfLs_good, eqfCl_good, trivial⟩) (by kernel_rfl) ?_
  intro L P' Q' hL hP hQ
  (cbv; try simp only [sat_need, sat_must, sat_ite, sat_done, sat_yes, sat_ex, sat_all, sat_sup, sat_and, sat_fail, true_and, and_true])
  (subst hL; subst hQ; simp only [L2, L3, std] at *; try simp only [sySet, reduceCtorEq, forall_const, Int.reduceToNat, Int.reduceAdd, Int.reduceSub, Int.cast_ofNat_Int, Int.toNat_natCast, Nat.le_eq, Nat.sub_eq, ne_eq, Decidable.not_not, implies_true, true_and, and_true, wadd, wsub, wmul, decide_eq_true_eq, decide_eq_false_iff_not, Nat.succ_eq_add_one, imp_false, not_false_eq_true, not_true_eq_false, false_imp_iff, true_imp_iff] at *)
  simp only [rdwLs, rdwCl]
  refine ⟨fun h1 => ⟨⟨okwLs _, okwLs _, hp1.1, hp1.2.2.1, hp2.2.2.1⟩, fun h2 => ⟨⟨okwCl _, okwCl _, hp1.2.1, hp1.2.2.2, hp2.2.2.2⟩, ?_⟩, fun h2 => ?_⟩, fun h1 => ?_⟩
  · have h2 : y.ls = z.ls := of_decide_eq_true h2
    cases y; cases z
    simp only [eqlCl, eqpCf, Cf.mk.injEq] at *
    rw [decide_eq_decide]
    simp [h1, h2]
  · have h2 : ¬ y.ls = z.ls := of_decide_eq_false h2
    exact (decide_eq_false fun e => h2 (by rw [e])).symm
  · exact (decide_eq_false fun e => h1 (by rw [e])).symm
end Sy
end Go.Proofs.YtckbbcjbbmgmoaaGreatDoor
namespace Go.Proofs.YtckbbcjbbmgmoaaGreatDoor
namespace Sy
open Go Go.RowKit
set_option maxRecDepth 100000
set_option linter.unusedSimpArgs false
set_option linter.unusedVariables false

theorem Opens.turn {H : Type} {enc : TypeId × Value → H} {P : Program} {W : World} {t : TypeId} {α β : Type} {sz : Nat} {av : α → Nat → AV} {av' : β → Nat → AV} {ok : α → Prop} {ok' : β → Prop} (O : Opens enc P W t α sz av ok) (f : α → β) (h2 : ∀ y, ok y → ok' (f y))
    (h1 : ∀ y, ok y → ∀ j, j < sz → ∀ v, R W.heap (DW W) noMu (av y j) v → R W.heap (DW W) noMu (av' (f y) j) v) : Opens enc P W t β sz av' ok' := by
  refine ⟨O.size, fun fuel cs x h => ?_⟩
  obtain ⟨y, y1, y2, y3⟩ := O.go fuel cs x h
  refine ⟨f y, h2 y y1, y2, fun j hj => ?_⟩
  obtain ⟨v, v1, v2, v3⟩ := y3 j hj
  exact ⟨v, v1, v2, h1 y y1 j hj v v3⟩
theorem lstw_R {h : Array Obj} {D : Nat → Prop} {μ : Mu} {sz n : Nat} {get get' : Nat → Nat → AV} {v : Value} (e : ∀ i j, i < n → j < sz → get i j = get' i j) (r : R h D μ (.lst sz n get) v) : R h D μ (.lst sz n get') v := by
  cases r with
  | lst0 _ _ a cap hn => exact .lst0 _ _ a cap hn
  | lst _ _ _ b o cap vs hD hc hv h1 hr => exact .lst _ _ _ b o cap vs hD hc hv h1 (fun i j hi hj => by rw [← e i j hi hj]; exact hr i j hi hj)
/-- A list of what a view tells. -/
theorem opens_lstW {H : Type} {enc : TypeId × Value → H} {P : Program} {W : World} {t e : TypeId} {α : Type} {V : Vw α} {ok : α → Prop} (ht : P.underlying t = some (.slice e)) (hc : P.cellsOf t = 1) (he : Opens enc P W e α V.sz (V.cell std) ok) (hs : 0 < V.sz) :
    Opens enc P W t (List α) 1 (fun l _ => lstW std V l) (fun l => l.length ≤ maxLen ∧ ∀ y ∈ l, ok y) :=
  (opens_slice ht hc he hs).turn id (fun y h => h) (fun y h j hj v r => lstw_R (fun i q hi hq => by
    show avL (V.cell std) y i q = V.cell std (nthW V y i) q
    have hi : i < y.length := hi
    rw [avL, List.getElem?_eq_getElem hi, nthW_at hi]) r)
end Sy
end Go.Proofs.YtckbbcjbbmgmoaaGreatDoor
namespace Go.Proofs.YtckbbcjbbmgmoaaGreatDoor
namespace Sy
open Go Go.RowKit
set_option maxRecDepth 100000
set_option linter.unusedSimpArgs false
set_option linter.unusedVariables false

theorem opens_Rt {H : Type} {enc : TypeId × Value → H} {W : World} : Opens enc Tryz.prog W 55 Rt 4 (rtC std) wfRt :=
  (opens_struct Tryz.underlying55 (by kernel_rfl) (opensF_cons rfl (opens_str Tryz.underlying9 (by kernel_rfl)) (opensF_cons rfl (opens_str Tryz.underlying9 (by kernel_rfl)) (opensF_cons rfl (opens_str Tryz.underlying9 (by kernel_rfl)) (opensF_cons rfl (opens_int Tryz.underlying22 (by kernel_rfl)) (opensF_nil _)))))).turn
    (fun y => Rt.mk y.1 y.2.1 y.2.2.1 y.2.2.2.1) (fun y h => by have := bounds_u64 h.2.2.2.1; exact ⟨this.1, by show y.2.2.2.1 < _; omega⟩)
    (fun y h j hj v r => by match j, hj with | 0, _ => exact r | 1, _ => exact r | 2, _ => exact r | 3, _ => exact r)
theorem opens_Ep {H : Type} {enc : TypeId × Value → H} {W : World} : Opens enc Tryz.prog W 57 Ep 6 (epC std) wfEp :=
  (opens_struct Tryz.underlying57 (by kernel_rfl) (opensF_cons rfl opens_Pl (opensF_cons rfl (opens_int Tryz.underlying3 (by kernel_rfl)) (opensF_nil _)))).turn
    (fun y => Ep.mk y.1 y.2.1) (fun y h => by have := bounds_i64 h.2.1; exact ⟨h.1, this.1, this.2⟩)
    (fun y h j hj v r => by match j, hj with | 0, _ => exact r | 1, _ => exact r | 2, _ => exact r | 3, _ => exact r | 4, _ => exact r | 5, _ => exact r)
theorem opens_Ls {H : Type} {enc : TypeId × Value → H} {W : World} : Opens enc Tryz.prog W 39 Ls 7 (lsC std) wfLsn :=
  (opens_struct Tryz.underlying39 (by kernel_rfl) (opensF_cons rfl (opens_str Tryz.underlying9 (by kernel_rfl)) (opensF_cons rfl opens_Pl (opensF_cons rfl (opens_lstW (V := rtV) Tryz.underlying37 (by kernel_rfl) opens_Rt (by decide)) (opensF_nil _))))).turn
    (fun y => Ls.mk y.1 y.2.1 y.2.2.1) (fun y h => ⟨h.2.1, h.2.2.1.2⟩)
    (fun y h j hj v r => by match j, hj with | 0, _ => exact r | 1, _ => exact r | 2, _ => exact r | 3, _ => exact r | 4, _ => exact r | 5, _ => exact r | 6, _ => exact r)
theorem opens_Cl {H : Type} {enc : TypeId × Value → H} {W : World} : Opens enc Tryz.prog W 44 Cl 2 (clC std) wfCl :=
  (opens_struct Tryz.underlying44 (by kernel_rfl) (opensF_cons rfl (opens_str Tryz.underlying9 (by kernel_rfl)) (opensF_cons rfl (opens_lstW (V := epV) Tryz.underlying42 (by kernel_rfl) opens_Ep (by decide)) (opensF_nil _)))).turn
    (fun y => Cl.mk y.1 y.2.1) (fun y h => h.2.1.2)
    (fun y h j hj v r => by match j, hj with | 0, _ => exact r | 1, _ => exact r)
theorem opens_Cf {H : Type} {enc : TypeId × Value → H} {W : World} : Opens enc Tryz.prog W 26 Cf 3 (cfC std) wfCf :=
  (opens_struct Tryz.underlying26 (by kernel_rfl) (opensF_cons rfl (opens_int Tryz.underlying22 (by kernel_rfl)) (opensF_cons rfl (opens_lstW (V := lsV) Tryz.underlying23 (by kernel_rfl) opens_Ls (by decide)) (opensF_cons rfl (opens_lstW (V := clV) Tryz.underlying24 (by kernel_rfl) opens_Cl (by decide)) (opensF_nil _))))).turn
    (fun y => Cf.mk y.1 y.2.1 y.2.2.1) (fun y h => by have := bounds_u64 h.1; exact ⟨⟨this.1, by show y.1 < _; omega⟩, h.2.1.2, h.2.2.1.2⟩)
    (fun y h j hj v r => by match j, hj with | 0, _ => exact r | 1, _ => exact r | 2, _ => exact r)
/-! ### The chapter's example -/
theorem short3 : shortZ 3 = [3] := by rw [shortZ, show (3 : Int).toNat = 3 from rfl, shortL_small (by decide)]; rfl
theorem short0 : shortZ 0 = [0] := by rw [shortZ, show (0 : Int).toNat = 0 from rfl, shortL_small (by decide)]; rfl
theorem e9_row : textV (rowV []) = [3, 0] := by
  rw [rowV, textV_mk, if_neg (by decide), if_neg (by decide), textLs]
  show _ ++ (shortZ 0 ++ _) = _
  rw [short0]; rfl
theorem e9_text {n : Int} {b : UInt8} (h : shortZ n = [b]) : textV (rowV [numV n, rowV [], rowV []]) = [3, 3, 1, b, 3, 0, 3, 0] := by
  rw [rowV, textV_mk, if_neg (by decide), if_neg (by decide), textLs, textLs, textLs, textLs]
  show _ ++ (shortZ 3 ++ (_ ++ (_ ++ (_ ++ _)))) = _
  have e : textV (numV n) = [1, b] := by rw [numV, textV_mk, if_pos rfl, h]; rfl
  have e' : textV (.mk 3 0 [] []) = [3, 0] := e9_row
  rw [short3, e, show textV (rowV []) = [3, 0] from e9_row]; rfl
theorem e9_bare (n : Int) : bareV (rowV [numV n, rowV [], rowV []]) = true := by simp [rowV, numV, bareV, bareLs]
theorem e9_deep (n : Int) : deepV (rowV [numV n, rowV [], rowV []]) ≤ 6 := by
  simp only [rowV, numV, deepV, deepLs]
  split <;> decide
theorem e9_cf {n : Int} {b : UInt8} (h : shortZ n = [b]) : cfE ⟨n, [], []⟩ = 0 ∧ cfT ⟨n, [], []⟩ = [3, 3, 1, b, 3, 0, 3, 0] := by
  have h1 : putE (cfVal ⟨n, [], []⟩) = 0 := by
    show putE (rowV [numV n, rowV [], rowV []]) = 0
    have := e9_deep n
    rw [putE, if_pos (e9_bare n), if_neg (by omega), e9_text h]; rfl
  have h2 : cfE ⟨n, [], []⟩ = 0 := h1
  refine ⟨h2, ?_⟩
  rw [cfT, if_pos h2, (put_ok h1).2.2.2]
  exact e9_text h
theorem rd_new (n : Int) : rdGCf (.agg [.int .u64 n, .nils, .nils]) = ⟨n, [], []⟩ := rfl
theorem ok_new (n : Int) : okGCf (.agg [.int .u64 n, .nils, .nils]) := ⟨rfl, ⟨_, rfl⟩, trivial, trivial⟩
theorem pre_new {n : Int} (h : shortOk n) : bytPre ⟨n, [], []⟩ := ⟨rfl, h, (fun l hl => nomatch hl), (fun l hl => nomatch hl)⟩
theorem awake09_ac : ACalls Tryz.prog 11 [] (.bool true) := by
  refine acalls_L (T := tt) (S := fun L => sumOf [byt_s L, tru 47, tru 48]) (lo := noA) (lb := noA) 5 (fn := Tryz.f11) rfl rfl (by kernel_rfl) (by kernel_rfl) rfl tt_ok (sumOf_ok ⟨byt_good, tru_good Awake04_ac, tru_good Awake07_ac, trivial⟩) (by kernel_rfl) ?_
  intro L P' Q' hL hP hQ
  (cbv; try simp only [sat_need, sat_must, sat_ite, sat_done, sat_yes, sat_ex, sat_all, sat_sup, sat_and, sat_fail, true_and, and_true])
  (subst hL; subst hQ; simp only [L2, L3, std] at *; try simp only [sySet, reduceCtorEq, forall_const, Int.reduceToNat, Int.reduceAdd, Int.reduceSub, Int.cast_ofNat_Int, Int.toNat_natCast, Nat.le_eq, Nat.sub_eq, ne_eq, Decidable.not_not, implies_true, true_and, and_true, wadd, wsub, wmul, decide_eq_true_eq, decide_eq_false_iff_not, Nat.succ_eq_add_one, imp_false, not_false_eq_true, not_true_eq_false, false_imp_iff, true_imp_iff] at *)
  simp only [rd_new, (e9_cf short1).1, (e9_cf short1).2, (e9_cf short0).1, (e9_cf short0).2]
  exact ⟨⟨ok_new 1, pre_new ⟨by decide, by decide⟩⟩, ⟨ok_new 0, pre_new ⟨by decide, by decide⟩⟩, fun _ => ⟨fun _ => ⟨fun _ => trivial, trivial⟩, trivial⟩, trivial⟩
/-! ### The laws -/
theorem light_same {x : Cf} (h : lightF x = true) : samePF x := by
  simp only [lightF, Bool.and_eq_true, decide_eq_true_eq, List.all_eq_true, lightL, lightC] at h
  obtain ⟨⟨⟨l1, l2⟩, l3⟩, l4⟩ := h
  refine ⟨?_, ?_, fun a ha => ?_, fun a ha => ?_⟩
  · show _ ≤ 1000000
    omega
  · show _ ≤ 1000000
    omega
  · have := (l3 a ha).1.2
    show _ ≤ 1000000
    omega
  · have := (l4 a ha).2
    show _ ≤ 1000000
    omega
theorem apart_ac (y z : Cf) (hy : wfCf y) (hz : wfCf z) : ACalls Tryz.prog 3 [.agg ((List.range 3).map (cfC std y)), .agg ((List.range 3).map (cfC std z))] (.bool true) := by
  refine acalls_L' (T := tt) (S := fun L => sumOf [tru 11, prS 12 okGCf rdGCf lightF preLF L, byt_s L, pr2S 14 okGCf rdGCf eqpCf samePF L]) (lo := fun _ => noA std) (lb := noA) 5 (fn := Tryz.f3) (xs := fun L => [.agg [.int .u64 (L Cf.v y), .lst 7 (L lenW (L Cf.ls y)) (fun i => lsC L (L (L nthLs (L Cf.ls y)) i)), .lst 2 (L lenW (L Cf.cs y)) (fun i => clC L (L (L nthCl (L Cf.cs y)) i))], .agg [.int .u64 (L Cf.v z), .lst 7 (L lenW (L Cf.ls z)) (fun i => lsC L (L (L nthLs (L Cf.ls z)) i)), .lst 2 (L lenW (L Cf.cs z)) (fun i => clC L (L (L nthCl (L Cf.cs z)) i))]]) rfl rfl (by kernel_rfl) (by kernel_rfl) rfl tt_ok (sumOf_ok ⟨tru_good awake09_ac, light_good, byt_good, eqpCf_good, trivial⟩) (by kernel_rfl) ?_
  intro L P' Q' hL hP hQ
  have hG : ∀ y : Cf, L rdGCf (.agg [.int .u64 (L Cf.v y), .lst 7 (L lenW (L Cf.ls y)) (fun i => lsC L (L (L nthLs (L Cf.ls y)) i)), .lst 2 (L lenW (L Cf.cs y)) (fun i => clC L (L (L nthCl (L Cf.cs y)) i))]) = y := by subst hL; exact fun y => (gK cfV_ok y _ rfl).2
  have hO : ∀ y : Cf, L okGCf (.agg [.int .u64 (L Cf.v y), .lst 7 (L lenW (L Cf.ls y)) (fun i => lsC L (L (L nthLs (L Cf.ls y)) i)), .lst 2 (L lenW (L Cf.cs y)) (fun i => clC L (L (L nthCl (L Cf.cs y)) i))]) := by subst hL; exact fun y => (gK cfV_ok y _ rfl).1
  (cbv; try simp only [sat_need, sat_must, sat_ite, sat_done, sat_yes, sat_ex, sat_all, sat_sup, sat_and, sat_fail, true_and, and_true])
  simp only [hG, hO, true_and]
  (subst hL; subst hQ; simp only [L2, L3, std] at *; try simp only [sySet, reduceCtorEq, forall_const, Int.reduceToNat, Int.reduceAdd, Int.reduceSub, Int.cast_ofNat_Int, Int.toNat_natCast, Nat.le_eq, Nat.sub_eq, ne_eq, Decidable.not_not, implies_true, true_and, and_true, wadd, wsub, wmul, decide_eq_true_eq, decide_eq_false_iff_not, Nat.succ_eq_add_one, imp_false, not_false_eq_true, not_true_eq_false, false_imp_iff, true_imp_iff] at *)
  clear hG hO
  have hb : ∀ b : Bool, ¬ beqB b b = false := fun b => by cases b <;> decide
  have hr : ∀ x : Cf, ¬ eqpCf x x = false := fun x => by simp [eqpCf]
  have hs : eqpCf z y = eqpCf y z := by
    unfold eqpCf
    rw [decide_eq_decide]
    exact ⟨fun h => h.symm, fun h => h.symm⟩
  refine ⟨trivial, fun l1 => ⟨trivial, fun l2 => ⟨⟨l1, hy⟩, ⟨l2, hz⟩, fun e1 e2 => ?_⟩⟩⟩
  have s1 := light_same l1
  have s2 := light_same l2
  have ht : seq (cfT y) (cfT z) = eqpCf y z := by
    rw [Bool.eq_iff_iff]
    simp only [seq, eqpCf, decide_eq_true_eq, beq_iff_eq]
    exact ⟨fun h => cf_inj hy hz l1 l2 e1 e2 h, fun h => by rw [h]⟩
  rw [hs, ht]
  have hl := cfT_len e1
  exact ⟨⟨s1, s2⟩, fun _ => ⟨⟨s1, s1⟩, fun _ => ⟨⟨s1, s2⟩, ⟨s2, s1⟩, fun _ => by omega, hb _⟩, hr _⟩, hb _⟩
theorem law_ConfigApart (y : Cf) (hy : wfCf y) (z : Cf) (hz : wfCf z) : ACalls Tryz.prog 3 [.agg ((List.range 3).map (cfC std y)), .agg ((List.range 3).map (cfC std z))] (.bool true) := apart_ac y z hy hz
end Sy
end Go.Proofs.YtckbbcjbbmgmoaaGreatDoor
namespace Go.Proofs.YtckbbcjbbmgmoaaGreatDoor
namespace Sy
open Go
set_option linter.unusedVariables false

theorem laid_at {P : Program} {w : World} {n : String} {d : DataW Unit} : ∀ {l : List (String × DataW Unit)} {ps : List MemPlace}, DataW.LaidVars P w l ps → (n, d) ∈ l →
    ∃ g t cs fuel p, P.globalNamed n = some g ∧ (P.globals[g]?).map (·.type) = some t ∧ w.var? P n = some cs ∧ DataW.trod (fun _ => ()) P w 0 (fun _ => true) false fuel t cs.toList = some (d, p)
  | x :: r, ps, h, hm => by
    obtain ⟨n', d'⟩ := x
    obtain ⟨g, t, cs, fuel, p, q, h1, h2, h3, h4, h5, _⟩ := h
    rcases List.mem_cons.1 hm with e | hm
    · cases e
      exact ⟨g, t, cs, fuel, p, h1, h2, h3, h4⟩
    · exact laid_at h5 hm
theorem laid_tab {P : Program} {w : World} {name : String} {k : IntKind} {zs : List Int} {l : List (String × DataW Unit)} (h : laidMet P l w) (hm : (name, Lib.tabData k zs) ∈ l) {g : Nat} {t e : TypeId} {n : Nat}
    (hg : P.globalNamed name = some g) (hty : (P.globals[g]?).map (·.type) = some t) (ht : P.underlying t = some (.array n e)) (he : P.underlying e = some (.int k)) (hce : P.cellsOf e = 1) (hct : P.cellsOf t = n) : Lib.TabIs P w name k zs := by
  obtain ⟨ps, hv, _⟩ := h
  obtain ⟨g', t', cs, fuel, p, hg', ht', hvar, hd⟩ := laid_at hv hm
  obtain rfl := Option.some.inj (hg.symm.trans hg')
  obtain rfl := Option.some.inj (hty.symm.trans ht')
  unfold Lib.TabIs
  rw [hvar, ← Lib.cells_of_tab ht he hce hct hd]
theorem laid_ifc {P : Program} {w : World} {name nm : String} {d : DataW Unit} {l : List (String × DataW Unit)} (h : laidMet P l w) (hm : (name, .iface nm d) ∈ l) {g : Nat} {t : TypeId} {ms : Array (String × TypeId)}
    (hg : P.globalNamed name = some g) (hty : (P.globals[g]?).map (·.type) = some t) (ht : P.underlying t = some (.interface ms)) : ∃ te pe, w.var? P name = some #[.iface te pe] := by
  obtain ⟨ps, hv, _⟩ := h
  obtain ⟨g', t', cs, fuel, p, hg', ht', hvar, hd⟩ := laid_at hv hm
  obtain rfl := Option.some.inj (hg.symm.trans hg')
  obtain rfl := Option.some.inj (hty.symm.trans ht')
  obtain ⟨f2, u, v, e, _, _⟩ := iface_of_trod ht hd
  refine ⟨u, v, ?_⟩
  rw [hvar]
  obtain ⟨l0⟩ := cs
  have e : l0 = [.iface u v] := e
  rw [e]
end Sy
end Go.Proofs.YtckbbcjbbmgmoaaGreatDoor
