/-Chapter 26 (handoff): lists of places: Clone, Insert, the binary search. Chapter 26 (handoff): messages, and the document's; rows of the document's. Chapter 26 (handoff): 'with', DeleteFunc; rows of the document's. Chapter 26 (handoff): Giver, Taker: Done, Messages, Give, the Taker's Take. Chapter 26 (handoff): the places that are not one: IndexFunc, DeleteFunc; the Giver's Take. Chapter 26 (handoff): the document's rows of places: Has, Put, Drop, Give, places, same. Chapter 26 (handoff): the document's Drop, Give; the law's places, same. The law FrameBytes: any frame as bytes, and back. Chapter 25, 26: the laws' awake runs. Chapter 26 (handoff): the document's Token, Taken. Chapter 26 (handoff): the law HandoffPlays. From a row's listed variables to what the executor asks of them (GOk).-/
import Derived.Test.YtckbbcjbbmgmoaaGreatDoorM4
import Derived.Test.YtckbbcjbbmgmoaaGreatDoorM1
import Derived.ProofKit
import Derived.OpenShut
import Derived.LaidMore
import Derived.Lay
import Derived.Stop.Joined
import Derived.Lib.LaidTab
namespace Go.Proofs.YtckbbcjbbmgmoaaGreatDoor
namespace Sy
open Go Go.RowKit
set_option maxRecDepth 100000
set_option linter.unusedSimpArgs false
set_option linter.unusedVariables false
def plV : Vw Pl := ⟨5, plC, rdP, okP5, ⟨0, 0, 0, 0, 0⟩⟩
def nthPl (l : List Pl) (i : Nat) : Pl := nthW plV l i
def lstPl (L : Seal) (l : List Pl) : AV := .lst 5 (L lenW l) (fun i => plC L (L (L nthPl l) i))
def okWPl (x : AV) : Prop := okW plV x
def rdWPl (x : AV) : List Pl := rdW plV x
theorem plV_ok : VwOk plV := ⟨fun c hc j hj h D μ v r => pl_turn hc hj r, fun c x hx => pl_back hx⟩
theorem rdwPl (l : List Pl) : rdWPl (.lst 5 (lenW l) fun i => plC std (nthPl l i)) = l := (rdW_lst plV_ok l).2
theorem okwPl (l : List Pl) : okWPl (.lst 5 (lenW l) fun i => plC std (nthPl l i)) := (rdW_lst plV_ok l).1
theorem clonePl_good : GoodM Tryz.prog (cloneM 97 36 5 std) := by
  intro raw ob T h hp
  unfold cloneM at h
  simp only at h
  split at h
  rotate_left
  · cases h
  rename_i s n get
  cases hs : nbeq s 5 with
  | false => rw [hs] at h; cases h
  | true =>
  rw [hs] at h
  cases h
  have hp : n ≤ 1000000 := hp
  refine mc_lst (fun h0 => ?_) (fun h0 => ?_) (fun h0 => ?_)
  · refine mcalls_L (T := tt) (S := noS) (lo := noA) (lb := noA) 5 (fn := Tryz.f97) (xs := fun L => [.lst 5 n get]) (rts := fun _ => [.sl 900 5 0 n]) (O := fun L => []) (O1 := fun L => [(900, .row 36 5 n get)]) rfl rfl (by kernel_rfl) (by kernel_rfl) (by kernel_rfl) tt_ok (noS_ok _) (by kernel_rfl) ?_
    intro L P' Q' hL hP hQ
    (cbv; try simp only [sat_need, sat_must, sat_ite, sat_done, sat_yes, sat_ex, sat_all, sat_sup, sat_and, sat_fail, true_and, and_true])
    (subst hL; subst hQ; simp only [L2, L3, std] at *; try simp only [sySet, reduceCtorEq, forall_const, Int.reduceToNat, Int.reduceAdd, Int.reduceSub, Int.cast_ofNat_Int, Int.toNat_natCast, Nat.le_eq, Nat.sub_eq, ne_eq, Decidable.not_not, implies_true, true_and, and_true, wadd, wsub, wmul, decide_eq_true_eq, decide_eq_false_iff_not, Nat.succ_eq_add_one, imp_false, not_false_eq_true, not_true_eq_false, false_imp_iff, true_imp_iff] at *)
    simp only [nblt_eq] at *
    exact ⟨h0, Nat.le_trans (Nat.mul_le_mul_right _ (show 0 + n ≤ 1000000 by omega)) (by decide), by omega⟩
  · refine mcalls_L (T := tt) (S := noS) (lo := noA) (lb := noA) 5 (fn := Tryz.f97) (xs := fun L => [.nils]) (rts := fun _ => [.sl 900 5 0 n]) (O := fun L => []) (O1 := fun L => [(900, .row 36 5 n get)]) rfl rfl (by kernel_rfl) (by kernel_rfl) (by kernel_rfl) tt_ok (noS_ok _) (by kernel_rfl) ?_
    intro L P' Q' hL hP hQ
    (cbv; try simp only [sat_need, sat_must, sat_ite, sat_done, sat_yes, sat_ex, sat_all, sat_sup, sat_and, sat_fail, true_and, and_true])
    (subst hL; subst hQ; simp only [L2, L3, std] at *; try simp only [sySet, reduceCtorEq, forall_const, Int.reduceToNat, Int.reduceAdd, Int.reduceSub, Int.cast_ofNat_Int, Int.toNat_natCast, Nat.le_eq, Nat.sub_eq, ne_eq, Decidable.not_not, implies_true, true_and, and_true, wadd, wsub, wmul, decide_eq_true_eq, decide_eq_false_iff_not, Nat.succ_eq_add_one, imp_false, not_false_eq_true, not_true_eq_false, false_imp_iff, true_imp_iff] at *)
    exact ⟨by omega, by omega⟩
  · refine mcalls_L (T := tt) (S := noS) (lo := noA) (lb := noA) 5 (fn := Tryz.f97) (xs := fun L => [.emp]) (rts := fun _ => [.sl 900 5 0 n]) (O := fun L => []) (O1 := fun L => [(900, .row 36 5 n get)]) rfl rfl (by kernel_rfl) (by kernel_rfl) (by kernel_rfl) tt_ok (noS_ok _) (by kernel_rfl) ?_
    intro L P' Q' hL hP hQ
    (cbv; try simp only [sat_need, sat_must, sat_ite, sat_done, sat_yes, sat_ex, sat_all, sat_sup, sat_and, sat_fail, true_and, and_true])
    (subst hL; subst hQ; simp only [L2, L3, std] at *; try simp only [sySet, reduceCtorEq, forall_const, Int.reduceToNat, Int.reduceAdd, Int.reduceSub, Int.cast_ofNat_Int, Int.toNat_natCast, Nat.le_eq, Nat.sub_eq, ne_eq, Decidable.not_not, implies_true, true_and, and_true, wadd, wsub, wmul, decide_eq_true_eq, decide_eq_false_iff_not, Nat.succ_eq_add_one, imp_false, not_false_eq_true, not_true_eq_false, false_imp_iff, true_imp_iff] at *)
    exact ⟨⟨by omega, by omega⟩, ⟨by omega, fun i j hi hj => by omega⟩, by omega⟩
theorem sizePl : (Tryz.prog.info? 36).map (·.size) = some 5 := by kernel_rfl
theorem overPl_good : GoodM Tryz.prog (overM 192) := by
  have h1 : Tryz.prog.funcs[192]? = some Tryz.f192 := rfl
  have h2 : (Tryz.f192.name == "runtime.NumGoroutine") = false := by kernel_rfl
  have h3 : Tryz.f192.body.isNone = true := by kernel_rfl
  have h4 : Extern.findNext Tryz.f192 = none := by kernel_rfl
  have h5 : Extern.find Tryz.f192 = some (Extern.SlicesOverlaps.overlaps #[78, 78] #[4]) := by kernel_rfl
  have h6 : ∀ w, (Go.sizeOf 36).run Tryz.prog w = .ok 5 w := by
    intro w
    obtain ⟨i, hi, hs⟩ := Option.map_eq_some_iff.1 sizePl
    simp [Go.sizeOf, typeInfo, program, Sem.run, hi, hs]
  exact over_run (P := Tryz.prog) (f := 192) (fn := Tryz.f192) (tS := 78) (tR := 4) (e := 36) (esz := 5) h1 h2 h3 h4 h5 Tryz.underlying78 h6
theorem insrunPl {n n1 k : Nat} {i : Int} {get gv : Nat → Nat → AV} (hn : n ≤ 1000000) (hi : i = k) (h1 : k ≤ n) (hn1 : n1 = n + 1) : MCalls Tryz.prog 156 [.sl 500000 5 0 n, .int .i64 i, .sl 500001 5 0 1] [(500000, .row 36 5 n get), (500001, .row 36 5 1 gv)] (.sl 900 5 0 n1) [(900, .row 36 5 n1 (insG get gv k))] := by
  refine mcalls_LX (T := tt) (S := fun L => sumOfM [] [overM 192]) (lo := noA) (lb := noA) 5 (fn := Tryz.f156) (xs := fun L => [.sl 500000 5 0 n, .int .i64 i, .sl 500001 5 0 1]) (rts := fun _ => [.sl 900 5 0 n1]) (O := fun L => [(500000, .row 36 5 n get), (500001, .row 36 5 1 gv)]) (O1 := fun L => [(900, .row 36 5 n1 (insG get gv k))]) rfl rfl (by kernel_rfl) (by kernel_rfl) (by kernel_rfl) tt_ok (sumOfM_ok trivial ⟨overPl_good, trivial⟩) (by kernel_rfl) ?_
  intro L P' Q' hL hP hQ
  (cbv; try simp only [sat_need, sat_must, sat_ite, sat_done, sat_yes, sat_ex, sat_all, sat_sup, sat_and, sat_fail, true_and, and_true])
  intro cap hcap
  cbv at hcap
  (cbv; try simp only [sat_need, sat_must, sat_ite, sat_done, sat_yes, sat_ex, sat_all, sat_sup, sat_and, sat_fail, true_and, and_true])
  subst hL; subst hQ
  have hcap : n ≤ cap := hcap
  have hs1 : ∀ (x : Nat), std Int.toNat ((x : Nat) : Int) = x := fun x => rfl
  have hi2 : i = ((k : Nat) : Int) := hi
  clear hi
  subst hi2; subst hn1
  have w1 : wadd .i64 (natI n) (natI 1) = natI (n + 1) := by simp only [wadd, w_i64, natI_is]; omega
  have w2 : wsub .i64 (natI (n + 1)) (k : Int) = natI (n + 1 - k) := by simp only [wsub, w_i64, natI_is]; omega
  have w3 : wadd .i64 (k : Int) (natI 1) = natI (k + 1) := by simp only [wadd, w_i64, natI_is]; omega
  simp only [L2, L3, std, w1, w2, w3] at *
  simp only [sySet, inS4_is, gei_s, gei_n, nble_t, nble_f, nblt_t, nblt_f, roomCp_t, add_is, sub_is, Int.toNat_natCast, natI_is, selX_if, segCp_t, insG, selC_if 5 (by decide), natmin] at *
  repeat' first | refine And.intro ?_ ?_ | (intro _)
  all_goals try omega
  all_goals try contradiction
  all_goals try (rename_i q j hq hj; repeat' split)
  all_goals first | rfl | (exfalso; omega) | exact congrFun (congrArg _ (by omega)) _ | skip
theorem insPl_good : GoodM Tryz.prog (insM 156 36 5 std) := by
  intro raw ob T h hp
  unfold insM at h
  simp only at h
  split at h
  rotate_left
  · cases h
  rename_i a s n i b s'
  split at h
  rotate_left
  · cases h
  cases h
  obtain ⟨p1, p2, p3⟩ : insOk n i := hp
  exact insrunPl p1 (k := i.toNat) (by omega) (by omega) rfl
/-- The binary search. -/
def lbI (l : List Pl) (p : Pl) : Int := lbP p l
def bsIn (l : List Pl) (p : Pl) (x : Nat × Nat) : Prop := x.1 ≤ lbP p l ∧ lbP p l ≤ x.2 ∧ x.2 ≤ l.length
def bsGo (x : Nat × Nat) : Nat := x.2 - x.1
def bsA (L : Seal) (l : List Pl) (p : Pl) : Nat → St → Option Ann := fun id st => match id with
  | 0 => some ⟨Nat × Nat, fun x => [(9, .int .i64 (L natI (L Prod.fst x))), (10, .int .i64 (L natI (L Prod.snd x)))], fun x => [], [0, 2, 4, 8], [4], fun x => L3 L bsIn l p x, fun x => L bsGo x⟩
  | _ => none
def bsP_s (L : Seal) : Ent1 := (154, fun xs => match xs with
  | [x, .agg [.int .u8 a, .int .u8 b, .int .u8 c, .int .u8 d, .int .u16 p], .fn k [] []] => match nbeq k 155 with
    | true => some (L okWPl x ∧ L lenE (L rdWPl x) ∧ L OkP (L rdWPl x) ∧ L plOk (mkPl L a b c d p), .tup [.int .i64 (L2 L lbI (L rdWPl x) (mkPl L a b c d p)), .bool (L2 L hasP (L rdWPl x) (mkPl L a b c d p))])
    | false => none
  | _ => none)
theorem nthPl_at {l : List Pl} {i : Nat} (h : i < l.length) : nthPl l i = l[i] := nthW_at (V := plV) h
theorem bs_mid {i j : Nat} {m : Int} (h : j ≤ 1000000) (hi : (i : Int) < (j : Int)) (hm : (wshr .u64 ((((i : Int) + (j : Int) + 9223372036854775808) % 18446744073709551616 - 9223372036854775808) % 18446744073709551616) 1 + 9223372036854775808) % 18446744073709551616 - 9223372036854775808 = m) :
    m = (((i + j) / 2 : Nat) : Int) := by
  have e : wshr .u64 ((((i : Int) + (j : Int) + 9223372036854775808) % 18446744073709551616 - 9223372036854775808) % 18446744073709551616) 1 = ((i : Int) + j) / 2 := by
    rw [show (((i : Int) + (j : Int) + 9223372036854775808) % 18446744073709551616 - 9223372036854775808) % 18446744073709551616 = (i : Int) + j by omega]
    unfold wshr
    show Int.fdiv _ (2 ^ 1) = _
    rw [Int.fdiv_eq_ediv_of_nonneg _ (by decide)]
    rfl
  rw [e] at hm
  omega
theorem bs_end {l : List Pl} {p : Pl} (hok : OkP l) (hpo : plOk p) {i : Nat} (e : i = lbP p l) : ((i : Int) < (l.length : Int) → ieq (plCmp (nthPl l i) p) 0 = hasP l p) ∧ ((l.length : Int) ≤ (i : Int) → false = hasP l p) := by
  have hh := lb_has hpo hok
  constructor
  · intro hlt
    have hl : lbP p l < l.length := by omega
    rw [e, nthPl_at hl]
    unfold hasP
    by_cases hm : p ∈ l
    · obtain ⟨_, h2⟩ := hh.1 hm
      rw [decide_eq_true hm, h2]; rfl
    · rw [decide_eq_false hm]
      have : plCmp l[lbP p l] p ≠ 0 := fun h => hm (hh.2 ⟨hl, h⟩)
      simp [ieq, this]
  · intro hge
    unfold hasP
    rw [decide_eq_false]
    intro hm
    obtain ⟨h1, _⟩ := hh.1 hm
    omega
theorem bsP_good : Good Tryz.prog (bsP_s std) := by
  intro xs p r h hp
  unfold bsP_s at h
  simp only at h
  split at h
  rotate_left
  · cases h
  rename_i x a b c d q k
  cases hk : nbeq k 155 with
  | false => rw [hk] at h; cases h
  | true =>
  rw [hk] at h
  obtain rfl : k = 155 := of_decide_eq_true hk
  cases h
  obtain ⟨ho, hz, hok, hpo⟩ := hp
  refine ac_w1 plV_ok ho ?_
  have hz : lenE (rdWPl x) := hz
  have hok : OkP (rdWPl x) := hok
  have hpo : plOk ⟨a, b, c, d, q⟩ := hpo
  show ACalls _ _ (lstW std plV (rdWPl x) :: _) (.tup [.int .i64 (lbI (rdWPl x) ⟨a, b, c, d, q⟩), .bool (hasP (rdWPl x) ⟨a, b, c, d, q⟩)])
  generalize rdWPl x = l at hz hok ⊢
  obtain ⟨p, hpp⟩ : ∃ p : Pl, p = ⟨a, b, c, d, q⟩ := ⟨_, rfl⟩
  rw [← hpp] at hpo ⊢
  refine acalls_L' (T := tt) (S := fun L => sumOf [cmpP_s L]) (lo := fun L => bsA L l p) (lb := noA) 5 (fn := Tryz.f154) (xs := fun L => [lstPl L l, .agg [.int .u8 a, .int .u8 b, .int .u8 c, .int .u8 d, .int .u16 q], .fn 155 [] []]) rfl rfl (by kernel_rfl) (by kernel_rfl) rfl tt_ok (sumOf_ok ⟨cmpP_good, trivial⟩) (by kernel_rfl) ?_
  intro L P' Q' hL hP hQ
  have hw : lenW l = l.length := rfl
  have hz : l.length ≤ 1000000 := hz
  have hlb := lb_le (p := p) (l := l)
  have hM : L (L (L (L (L Pl.mk a) b) c) d) q = p := by subst hL; exact hpp.symm
  have hE : ∀ y : Pl, L (L (L (L (L Pl.mk (L Pl.a y)) (L Pl.b y)) (L Pl.c y)) (L Pl.d y)) (L Pl.p y) = y := by subst hL; intro y; rfl
  obtain ⟨nl, hnl⟩ : ∃ nl, nl = l.length := ⟨_, rfl⟩
  (cbv; try simp only [sat_need, sat_must, sat_ite, sat_done, sat_yes, sat_ex, sat_all, sat_sup, sat_and, sat_fail, true_and, and_true])
  refine ⟨⟨(0, nl), ?_⟩, fun x hx => ?_⟩
  · (cbv; try simp only [sat_need, sat_must, sat_ite, sat_done, sat_yes, sat_ex, sat_all, sat_sup, sat_and, sat_fail, true_and, and_true])
    (subst hL; subst hQ; simp only [L2, L3, std] at *; try simp only [sySet, reduceCtorEq, forall_const, Int.reduceToNat, Int.reduceAdd, Int.reduceSub, Int.cast_ofNat_Int, Int.toNat_natCast, Nat.le_eq, Nat.sub_eq, ne_eq, Decidable.not_not, implies_true, true_and, and_true, wadd, wsub, wmul, decide_eq_true_eq, decide_eq_false_iff_not, Nat.succ_eq_add_one, imp_false, not_false_eq_true, not_true_eq_false, false_imp_iff, true_imp_iff] at *)
    subst hnl
    exact ⟨rfl, Nat.zero_le _, hlb, Nat.le_refl _⟩
  · cbv at hx
    (cbv; try simp only [sat_need, sat_must, sat_ite, sat_done, sat_yes, sat_ex, sat_all, sat_sup, sat_and, sat_fail, true_and, and_true])
    simp only [hM, hE]
    generalize hm : L IntKind.i64.wrap (L (L (wshr .u64) (L IntKind.u64.wrap (L (L (wadd .i64) (L natI (L Prod.fst x))) (L natI (L Prod.snd x))))) 1) = m
    refine ⟨fun hlt => ⟨?_, ?_, ?_, fun hc => ?_, fun hc => ?_⟩, fun hge => ?_⟩
    · (subst hL; subst hQ; simp only [L2, L3, std] at *; try simp only [sySet, reduceCtorEq, forall_const, Int.reduceToNat, Int.reduceAdd, Int.reduceSub, Int.cast_ofNat_Int, Int.toNat_natCast, Nat.le_eq, Nat.sub_eq, ne_eq, Decidable.not_not, implies_true, true_and, and_true, wadd, wsub, wmul, decide_eq_true_eq, decide_eq_false_iff_not, Nat.succ_eq_add_one, imp_false, not_false_eq_true, not_true_eq_false, false_imp_iff, true_imp_iff] at *)
      decide
    · (subst hL; subst hQ; simp only [L2, L3, std] at *; try simp only [sySet, reduceCtorEq, forall_const, Int.reduceToNat, Int.reduceAdd, Int.reduceSub, Int.cast_ofNat_Int, Int.toNat_natCast, Nat.le_eq, Nat.sub_eq, ne_eq, Decidable.not_not, implies_true, true_and, and_true, wadd, wsub, wmul, decide_eq_true_eq, decide_eq_false_iff_not, Nat.succ_eq_add_one, imp_false, not_false_eq_true, not_true_eq_false, false_imp_iff, true_imp_iff] at *)
      obtain ⟨x1, x2, x3⟩ := hx
      have hmm := bs_mid (by omega) hlt hm
      clear hm
      omega
    · (subst hL; subst hQ; simp only [L2, L3, std] at *; try simp only [sySet, reduceCtorEq, forall_const, Int.reduceToNat, Int.reduceAdd, Int.reduceSub, Int.cast_ofNat_Int, Int.toNat_natCast, Nat.le_eq, Nat.sub_eq, ne_eq, Decidable.not_not, implies_true, true_and, and_true, wadd, wsub, wmul, decide_eq_true_eq, decide_eq_false_iff_not, Nat.succ_eq_add_one, imp_false, not_false_eq_true, not_true_eq_false, false_imp_iff, true_imp_iff] at *)
      obtain ⟨x1, x2, x3⟩ := hx
      have hmm := bs_mid (by omega) hlt hm
      clear hm
      have hl : m.toNat < l.length := by omega
      refine ⟨?_, (by rw [hpp] at hpo; exact hpo)⟩
      show plOk (nthPl l m.toNat)
      rw [nthPl_at hl]
      exact hok.ok _ (List.getElem_mem hl)
    · obtain ⟨y, hy⟩ : ∃ y : Nat × Nat, y = (m.toNat + 1, x.2) := ⟨_, rfl⟩
      refine ⟨y, ?_⟩
      (cbv; try simp only [sat_need, sat_must, sat_ite, sat_done, sat_yes, sat_ex, sat_all, sat_sup, sat_and, sat_fail, true_and, and_true])
      (subst hL; subst hQ; simp only [L2, L3, std] at *; try simp only [sySet, reduceCtorEq, forall_const, Int.reduceToNat, Int.reduceAdd, Int.reduceSub, Int.cast_ofNat_Int, Int.toNat_natCast, Nat.le_eq, Nat.sub_eq, ne_eq, Decidable.not_not, implies_true, true_and, and_true, wadd, wsub, wmul, decide_eq_true_eq, decide_eq_false_iff_not, Nat.succ_eq_add_one, imp_false, not_false_eq_true, not_true_eq_false, false_imp_iff, true_imp_iff] at *)
      obtain ⟨x1, x2, x3⟩ := hx
      have hmm := bs_mid (by omega) hlt hm
      clear hm
      have hl : m.toNat < l.length := by omega
      rw [nthPl_at hl] at hc
      have hlt2 := (lb_spec hok.ris m.toNat hl).2 hc
      subst hy
      refine ⟨rfl, by show _ = ((m.toNat + 1 : Nat) : Int); omega, ⟨hlt2, x2, x3⟩, ?_⟩
      show x.2 - (m.toNat + 1) + 1 ≤ x.2 - x.1
      omega
    · obtain ⟨y, hy⟩ : ∃ y : Nat × Nat, y = (x.1, m.toNat) := ⟨_, rfl⟩
      refine ⟨y, ?_⟩
      (cbv; try simp only [sat_need, sat_must, sat_ite, sat_done, sat_yes, sat_ex, sat_all, sat_sup, sat_and, sat_fail, true_and, and_true])
      (subst hL; subst hQ; simp only [L2, L3, std] at *; try simp only [sySet, reduceCtorEq, forall_const, Int.reduceToNat, Int.reduceAdd, Int.reduceSub, Int.cast_ofNat_Int, Int.toNat_natCast, Nat.le_eq, Nat.sub_eq, ne_eq, Decidable.not_not, implies_true, true_and, and_true, wadd, wsub, wmul, decide_eq_true_eq, decide_eq_false_iff_not, Nat.succ_eq_add_one, imp_false, not_false_eq_true, not_true_eq_false, false_imp_iff, true_imp_iff] at *)
      obtain ⟨x1, x2, x3⟩ := hx
      have hmm := bs_mid (by omega) hlt hm
      clear hm
      have hl : m.toNat < l.length := by omega
      rw [nthPl_at hl] at hc
      have hge2 : ¬ m.toNat < lbP p l := fun h => by
        have := (lb_spec hok.ris m.toNat hl).1 h
        omega
      subst hy
      refine ⟨by show m = ((m.toNat : Nat) : Int); omega, rfl, ⟨x1, by show lbP p l ≤ m.toNat; omega, by show m.toNat ≤ l.length; omega⟩, ?_⟩
      show m.toNat - x.1 + 1 ≤ x.2 - x.1
      omega
    · (subst hL; subst hQ; simp only [L2, L3, std] at *; try simp only [sySet, reduceCtorEq, forall_const, Int.reduceToNat, Int.reduceAdd, Int.reduceSub, Int.cast_ofNat_Int, Int.toNat_natCast, Nat.le_eq, Nat.sub_eq, ne_eq, Decidable.not_not, implies_true, true_and, and_true, wadd, wsub, wmul, decide_eq_true_eq, decide_eq_false_iff_not, Nat.succ_eq_add_one, imp_false, not_false_eq_true, not_true_eq_false, false_imp_iff, true_imp_iff] at *)
      obtain ⟨x1, x2, x3⟩ := hx
      clear hm
      have e : x.1 = lbP p l := by omega
      obtain ⟨k1, k2⟩ := bs_end hok hpo e
      refine ⟨fun h1 => ⟨⟨by omega, h1⟩, ⟨?_, (by rw [hpp] at hpo; exact hpo)⟩, by rw [e]; rfl, k1 (by omega)⟩, fun h1 => ⟨by rw [e]; rfl, k2 (by omega)⟩⟩
      show plOk (nthPl l x.1)
      have hl : x.1 < l.length := by omega
      rw [nthPl_at hl]
      exact hok.ok _ (List.getElem_mem hl)
end Sy
end Go.Proofs.YtckbbcjbbmgmoaaGreatDoor
namespace Go.Proofs.YtckbbcjbbmgmoaaGreatDoor
namespace Sy
open Go Go.RowKit
set_option maxRecDepth 100000
set_option linter.unusedSimpArgs false
set_option linter.unusedVariables false
def hm_s (f : Nat) (L : Seal) : Ent1 := (f, fun xs => match xs with
  | [.int .i64 k, .int .u64 e, .agg [.int .u8 a, .int .u8 b, .int .u8 c, .int .u8 d, .int .u16 p]] => some (L2 L hmOk e (mkPl L a b c d p), .str (L3 L hmT k e (mkPl L a b c d p)))
  | _ => none)
theorem hm_good : Good Tryz.prog (hm_s 26 std) := by
  intro xs p r h hp
  dsimp only [hm_s] at h ⊢
  split at h <;> cases h
  try simp only [L2, L3, std] at hp ⊢
  rename_i k e a b c d p
  obtain ⟨he, hpo⟩ : hmOk e ⟨a, b, c, d, p⟩ := hp
  refine acalls_L (T := tt) (S := fun L => sumOf [bytes_s L, by_s L]) (lo := noA) (lb := noA) 5 (fn := Tryz.f26) rfl rfl (by kernel_rfl) (by kernel_rfl) rfl tt_ok (sumOf_ok ⟨bytes_good, by_good, trivial⟩) (by kernel_rfl) ?_
  (intro L P1 Q1 hL hP hQ; cbv; subst hL; simp only [L2, L3, std, sat_need, sat_must, sat_ite, sat_done, sat_yes, sat_ex, sat_all, sat_sup, sat_and, sat_fail]; subst hQ)
  (simp only [sySet, reduceCtorEq, forall_const, Int.reduceToNat, Int.reduceAdd, Int.reduceSub, Int.cast_ofNat_Int, Int.toNat_natCast, Nat.le_eq, Nat.sub_eq, ne_eq, Decidable.not_not, implies_true, true_and, and_true, wadd, wsub, wmul, decide_eq_true_eq, decide_eq_false_iff_not, Nat.succ_eq_add_one, imp_false, not_false_eq_true, not_true_eq_false, false_imp_iff, true_imp_iff])
  exact ⟨hpo, ⟨he.1, he.2, by simp [mkPl, plB, std]⟩, rfl⟩
theorem rhm_good : Good Tryz.prog (hm_s 29 std) := by
  intro xs p r h hp
  dsimp only [hm_s] at h ⊢
  split at h <;> cases h
  try simp only [L2, L3, std] at hp ⊢
  rename_i k e a b c d p
  obtain ⟨he, hpo⟩ : hmOk e ⟨a, b, c, d, p⟩ := hp
  refine acalls_L (T := tt) (S := fun L => sumOf [rbytes_s L, rby_s L]) (lo := noA) (lb := noA) 5 (fn := Tryz.f29) rfl rfl (by kernel_rfl) (by kernel_rfl) rfl tt_ok (sumOf_ok ⟨rbytes_good, rby_good, trivial⟩) (by kernel_rfl) ?_
  (intro L P1 Q1 hL hP hQ; cbv; subst hL; simp only [L2, L3, std, sat_need, sat_must, sat_ite, sat_done, sat_yes, sat_ex, sat_all, sat_sup, sat_and, sat_fail]; subst hQ)
  (simp only [sySet, reduceCtorEq, forall_const, Int.reduceToNat, Int.reduceAdd, Int.reduceSub, Int.cast_ofNat_Int, Int.toNat_natCast, Nat.le_eq, Nat.sub_eq, ne_eq, Decidable.not_not, implies_true, true_and, and_true, wadd, wsub, wmul, decide_eq_true_eq, decide_eq_false_iff_not, Nat.succ_eq_add_one, imp_false, not_false_eq_true, not_true_eq_false, false_imp_iff, true_imp_iff])
  exact ⟨hpo, ⟨he.1, he.2, by simp [mkPl, plB, std]⟩, rfl⟩
theorem paB_len (s : List UInt8) (h : s.length ≤ 900000) : (paB s).length ≤ 900000 := by
  unfold paB
  split
  · unfold nxB
    split
    · rw [List.length_drop, List.length_take]; omega
    · simp
  · simp
def hread_s (L : Seal) : Ent1 := (27, fun xs => match xs with
  | [.str s] => some (L2 L upto 900000 s, .tup [.int .i64 (L hrK s), .int .u64 (L hrP s), plA L (L hrL s), .int .i64 (L hrE s)])
  | _ => none)
theorem hread_good : Good Tryz.prog (hread_s std) := by
  intro xs p r h hp
  dsimp only [hread_s] at h ⊢
  split at h <;> cases h
  try simp only [L2, L3, std] at hp ⊢
  rename_i s
  have hl : s.length ≤ 900000 := hp
  refine acalls_L (T := tt) (S := fun L => sumOf [parse_s L, of_s L]) (lo := noA) (lb := noA) 5 (fn := Tryz.f27) rfl rfl (by kernel_rfl) (by kernel_rfl) rfl tt_ok (sumOf_ok ⟨parse_good, of_good, trivial⟩) (by kernel_rfl) ?_
  (intro L P1 Q1 hL hP hQ; cbv; subst hL; simp only [L2, L3, std, sat_need, sat_must, sat_ite, sat_done, sat_yes, sat_ex, sat_all, sat_sup, sat_and, sat_fail]; subst hQ)
  (simp only [sySet, reduceCtorEq, forall_const, Int.reduceToNat, Int.reduceAdd, Int.reduceSub, Int.cast_ofNat_Int, Int.toNat_natCast, Nat.le_eq, Nat.sub_eq, ne_eq, Decidable.not_not, implies_true, true_and, and_true, wadd, wsub, wmul, decide_eq_true_eq, decide_eq_false_iff_not, Nat.succ_eq_add_one, imp_false, not_false_eq_true, not_true_eq_false, false_imp_iff, true_imp_iff])
  have bad : ¬ hrE s = 0 → 0 = hrK s ∧ 0 = hrP s ∧ fits1 (plA std (hrL s)) (.agg [.int .u8 0, .int .u8 0, .int .u8 0, .int .u8 0, .int .u16 0]) ∧ 4 = hrE s := fun h => by
    obtain ⟨h1, h2, h3, h4⟩ := hr_bad h
    exact ⟨h2.symm, h3.symm, pl_fit h4, h1.symm⟩
  have yes : paE s = 0 → (paK s = 16 ∨ paK s = 17) → ofE (paB s) = 0 → paK s = hrK s ∧ paP s = hrP s ∧ fits1 (plA std (hrL s)) (.agg [.int .u8 (ofP (paB s)).a, .int .u8 (ofP (paB s)).b, .int .u8 (ofP (paB s)).c, .int .u8 (ofP (paB s)).d, .int .u16 (ofP (paB s)).p]) ∧ 0 = hrE s := fun h1 h2 h3 => by
    have h : hrE s = 0 := if_pos ⟨h1, h2, h3⟩
    refine ⟨?_, ?_, pl_fit ?_, h.symm⟩
    · rw [hrK, if_pos h]
    · rw [hrP, if_pos h]
    · rw [hrL, if_pos h]
  have hb : upto 1000000000 (paB s) := by have := paB_len s hl; show _ ≤ _; omega
  refine ⟨hl, fun h => bad (fun x => h (hr_yes x).1), fun h1 => ⟨fun h2 => ⟨fun h3 => bad (fun x => by have := (hr_yes x).2.1; omega), fun h3 => ⟨hb, fun h4 => bad (fun x => h4 (hr_yes x).2.2), fun h4 => yes h1 (.inr h3) h4⟩⟩, fun h2 => ⟨hb, fun h4 => bad (fun x => h4 (hr_yes x).2.2), fun h4 => yes h1 (.inl h2) h4⟩⟩⟩
theorem pa_nx {s : List UInt8} (h : paE s = 0) : nxE s = 0 ∧ rnL s = s.length ∧ paK s = nxK s := by
  unfold paE at h
  split at h
  · cases h
  · rename_i hn
    have hR : nxR s = [] := by
      by_cases hR : nxR s = []
      · exact hR
      · exact absurd ⟨h, hR⟩ hn
    obtain ⟨n1, n2⟩ := nx_len s h
    obtain ⟨n3, _⟩ := nxN_bound s
    rw [nxR, if_pos h] at hR
    have hl := congrArg List.length hR
    rw [List.length_drop, List.length_nil] at hl
    have hp : paE s = 0 := by unfold paE; rw [if_neg hn, h]
    exact ⟨h, by rw [rnL, if_pos h]; omega, by rw [paK, if_pos hp]⟩
theorem nx_pa {s : List UInt8} (h : nxE s = 0) (h2 : rnL s = s.length) : paE s = 0 ∧ paK s = nxK s ∧ paP s = nxP s ∧ paB s = nxB s := by
  have hR : nxR s = [] := by
    rw [nxR, if_pos h]
    rw [rnL, if_pos h] at h2
    apply List.eq_nil_of_length_eq_zero
    rw [List.length_drop]
    omega
  have hp : paE s = 0 := by unfold paE; rw [if_neg (by rw [hR]; simp), h]
  exact ⟨hp, by rw [paK, if_pos hp], by rw [paP, if_pos hp], by rw [paB, if_pos hp]⟩
theorem getZ_two (x y : UInt8) : getZ [x, y] = (x.toNat : Int) * 256 + y.toNat := by
  unfold getZ
  rw [show [x, y] = [x] ++ [y] from rfl, getL_snoc, show [x] = [] ++ [x] from rfl, getL_snoc]
  rw [show getL [] = 0 from rfl]
  omega
theorem of_six {b : List UInt8} (h : b.length = 6) : (ofE b = 0 ↔ (¬ ((b.getD 4 0).toNat : Int) = 0 ∨ ¬ ((b.getD 5 0).toNat : Int) = 0)) ∧
    ((¬ ((b.getD 4 0).toNat : Int) = 0 ∨ ¬ ((b.getD 5 0).toNat : Int) = 0) → ofP b = ⟨((b.getD 0 0).toNat : Int), ((b.getD 1 0).toNat : Int), ((b.getD 2 0).toNat : Int), ((b.getD 3 0).toNat : Int), (((b.getD 4 0).toNat : Int) % 65536 * 256 % 65536 + ((b.getD 5 0).toNat : Int) % 65536) % 65536⟩) := by
  match b, h with
  | [x0, x1, x2, x3, x4, x5], _ =>
    have e : (ofE [x0, x1, x2, x3, x4, x5] = 0 ↔ (¬ (x4.toNat : Int) = 0 ∨ ¬ (x5.toNat : Int) = 0)) := by
      have hd : ([x0, x1, x2, x3, x4, x5].drop 4 ≠ [0, 0]) ↔ (¬ (x4.toNat : Int) = 0 ∨ ¬ (x5.toNat : Int) = 0) := by
        have z : ∀ x : UInt8, x = 0 ↔ (x.toNat : Int) = 0 := fun x => ⟨fun h => by rw [h]; rfl, fun h => UInt8.toNat_inj.1 (by show x.toNat = 0; omega)⟩
        show [x4, x5] ≠ [0, 0] ↔ _
        simp only [ne_eq, List.cons.injEq, and_true]
        rw [z x4, z x5]
        omega
      unfold ofE
      constructor
      · intro h
        split at h
        · rename_i h2; exact hd.1 h2.2
        · cases h
      · intro h
        exact if_pos ⟨rfl, hd.2 h⟩
    refine ⟨e, fun h => ?_⟩
    have h0 := e.2 h
    rw [ofP, if_pos h0]
    have h4 := x4.toNat_lt
    have h5 := x5.toNat_lt
    show Pl.mk (x0.toNat : Int) (x1.toNat : Int) (x2.toNat : Int) (x3.toNat : Int) (getZ [x4, x5]) = Pl.mk (x0.toNat : Int) (x1.toNat : Int) (x2.toNat : Int) (x3.toNat : Int) (((x4.toNat : Int) % 65536 * 256 % 65536 + (x5.toNat : Int) % 65536) % 65536)
    rw [getZ_two]
    congr 1
    omega
def rread_s (L : Seal) : Ent1 := (28, fun xs => match xs with
  | [.str s] => some (L2 L upto 900000 s, .tup [.int .i64 (L hrK s), .int .u64 (L hrP s), plA L (L hrL s)])
  | _ => none)
theorem rread_good : Good Tryz.prog (rread_s std) := by
  intro xs p r h hp
  dsimp only [rread_s] at h ⊢
  split at h <;> cases h
  try simp only [L2, L3, std] at hp ⊢
  rename_i s
  have hl : s.length ≤ 900000 := hp
  refine acalls_L (T := tt) (S := fun L => sumOf [rnext_s L]) (lo := noA) (lb := noA) 5 (fn := Tryz.f28) rfl rfl (by kernel_rfl) (by kernel_rfl) rfl tt_ok (sumOf_ok ⟨rnext_good, trivial⟩) (by kernel_rfl) ?_
  (intro L P1 Q1 hL hP hQ; cbv; subst hL; simp only [L2, L3, std, sat_need, sat_must, sat_ite, sat_done, sat_yes, sat_ex, sat_all, sat_sup, sat_and, sat_fail]; subst hQ)
  (simp only [sySet, reduceCtorEq, forall_const, Int.reduceToNat, Int.reduceAdd, Int.reduceSub, Int.cast_ofNat_Int, Int.toNat_natCast, Nat.le_eq, Nat.sub_eq, ne_eq, Decidable.not_not, implies_true, true_and, and_true, wadd, wsub, wmul, decide_eq_true_eq, decide_eq_false_iff_not, Nat.succ_eq_add_one, imp_false, not_false_eq_true, not_true_eq_false, false_imp_iff, true_imp_iff])
  have bad : ¬ hrE s = 0 → 0 = hrK s ∧ 0 = hrP s ∧ fits1 (plA std (hrL s)) (.agg [.int .u8 0, .int .u8 0, .int .u8 0, .int .u8 0, .int .u16 0]) := fun h => by
    obtain ⟨h1, h2, h3, h4⟩ := hr_bad h
    exact ⟨h2.symm, h3.symm, pl_fit h4⟩
  refine ⟨hl, fun h => bad (fun x => h (pa_nx (hr_yes x).1).1), fun h1 => ⟨fun h2 => bad (fun x => h2 (pa_nx (hr_yes x).1).2.1), fun h2 => ?_⟩⟩
  obtain ⟨q1, q2, q3, q4⟩ := nx_pa h1 h2
  rw [← q2, ← q3, ← q4]
  have key : ((¬ ((paB s).length : Int) = 6 → 0 = hrK s ∧ 0 = hrP s ∧ fits1 (plA std (hrL s)) (.agg [.int .u8 0, .int .u8 0, .int .u8 0, .int .u8 0, .int .u16 0]))) ∧ (((paB s).length : Int) = 6 → (paK s = 16 ∨ paK s = 17) →
      ((((paB s).getD 4 0).toNat : Int) = 0 → ((((paB s).getD 5 0).toNat : Int) = 0 → 0 = hrK s ∧ 0 = hrP s ∧ fits1 (plA std (hrL s)) (.agg [.int .u8 0, .int .u8 0, .int .u8 0, .int .u8 0, .int .u16 0]))) ∧
      ((¬ (((paB s).getD 4 0).toNat : Int) = 0 ∨ ¬ (((paB s).getD 5 0).toNat : Int) = 0) → paK s = hrK s ∧ paP s = hrP s ∧ fits1 (plA std (hrL s)) (.agg [.int .u8 ((paB s).getD 0 0).toNat, .int .u8 ((paB s).getD 1 0).toNat, .int .u8 ((paB s).getD 2 0).toNat, .int .u8 ((paB s).getD 3 0).toNat, .int .u16 (((((paB s).getD 4 0).toNat : Int) % 65536 * 256 % 65536 + (((paB s).getD 5 0).toNat : Int) % 65536) % 65536)]))) := by
    refine ⟨fun h => bad (fun x => ?_), fun h6 hk => ?_⟩
    · have := (hr_yes x).2.2
      unfold ofE at this
      split at this
      · rename_i h2; omega
      · cases this
    · obtain ⟨o1, o2⟩ := of_six (b := paB s) (by omega)
      refine ⟨fun h4 h5 => bad (fun x => by have := o1.1 (hr_yes x).2.2; omega), fun h4 => ?_⟩
      have h : hrE s = 0 := if_pos ⟨q1, hk, o1.2 h4⟩
      refine ⟨?_, ?_, pl_fit ?_⟩
      · rw [hrK, if_pos h]
      · rw [hrP, if_pos h]
      · rw [hrL, if_pos h]; exact o2 h4
  obtain ⟨k1, k2⟩ := key
  have hbad : ¬ paK s = 16 → ¬ paK s = 17 → 0 = hrK s ∧ 0 = hrP s ∧ fits1 (plA std (hrL s)) (.agg [.int .u8 0, .int .u8 0, .int .u8 0, .int .u8 0, .int .u16 0]) := fun h3 h4 => bad (fun x => by have := (hr_yes x).2.1; omega)
  refine ⟨fun h3 => ⟨fun h4 => hbad h3 h4, fun h4 => ⟨k1, fun h6 => ?_⟩⟩, fun h3 => ⟨k1, fun h6 => ?_⟩⟩
  · obtain ⟨k3, k4⟩ := k2 h6 (.inr h4)
    exact ⟨by omega, fun h7 => ⟨by omega, fun h8 => k3 h7 h8, fun h8 => ⟨by omega, by omega, by omega, by omega, by omega, by omega, k4 (.inr h8)⟩⟩, fun h7 => ⟨by omega, by omega, by omega, by omega, by omega, by omega, k4 (.inl h7)⟩⟩
  · obtain ⟨k3, k4⟩ := k2 h6 (.inl h3)
    exact ⟨by omega, fun h7 => ⟨by omega, fun h8 => k3 h7 h8, fun h8 => ⟨by omega, by omega, by omega, by omega, by omega, by omega, k4 (.inr h8)⟩⟩, fun h7 => ⟨by omega, by omega, by omega, by omega, by omega, by omega, k4 (.inl h7)⟩⟩
def hrd_s (L : Seal) : Ent1 := (95, fun xs => match xs with
  | [.str s, .int .i64 k, .int .u64 e] => some (L2 L upto 900000 s, .tup [plA L (L3 L rdQ s k e), .int .i64 (L3 L rdE s k e)])
  | _ => none)
theorem hrd_good : Good Tryz.prog (hrd_s std) := by
  intro xs p r h hp
  dsimp only [hrd_s] at h ⊢
  split at h <;> cases h
  try simp only [L2, L3, std] at hp ⊢
  rename_i s k e
  have hl : s.length ≤ 900000 := hp
  refine acalls_L (T := tt) (S := fun L => sumOf [hread_s L]) (lo := noA) (lb := noA) 5 (fn := Tryz.f95) rfl rfl (by kernel_rfl) (by kernel_rfl) rfl tt_ok (sumOf_ok ⟨hread_good, trivial⟩) (by kernel_rfl) ?_
  (intro L P1 Q1 hL hP hQ; cbv; subst hL; simp only [L2, L3, std, sat_need, sat_must, sat_ite, sat_done, sat_yes, sat_ex, sat_all, sat_sup, sat_and, sat_fail]; subst hQ)
  (simp only [sySet, reduceCtorEq, forall_const, Int.reduceToNat, Int.reduceAdd, Int.reduceSub, Int.cast_ofNat_Int, Int.toNat_natCast, Nat.le_eq, Nat.sub_eq, ne_eq, Decidable.not_not, implies_true, true_and, and_true, wadd, wsub, wmul, decide_eq_true_eq, decide_eq_false_iff_not, Nat.succ_eq_add_one, imp_false, not_false_eq_true, not_true_eq_false, false_imp_iff, true_imp_iff])
  have e0 : ∀ c, c ≠ 0 → rdE s k e = c → fits1 (plA std (rdQ s k e)) (.agg [.int .u8 0, .int .u8 0, .int .u8 0, .int .u8 0, .int .u16 0]) ∧ c = rdE s k e := fun c hc h => ⟨pl_fit (if_neg (by rw [h]; exact hc)), h.symm⟩
  refine ⟨hl, fun h1 => ?_, fun h1 => ⟨fun h2 => e0 10 (by decide) (by rw [rdE, if_neg (by simp [h1]), if_pos h2]), fun h2 => ⟨fun h3 => e0 18 (by decide) (by rw [rdE, if_neg (by simp [h1]), if_neg (by simp [h2]), if_pos h3]), fun h3 => ?_⟩⟩⟩
  · obtain ⟨q1, q2, q3, q4⟩ := hr_bad h1
    have h4 : rdE s k e = 4 := by rw [rdE, if_pos h1]
    rw [q4, q1]
    exact e0 4 (by decide) h4
  · have h4 : rdE s k e = 0 := by rw [rdE, if_neg (by simp [h1]), if_neg (by simp [h2]), if_neg (by simp [h3])]
    exact ⟨pl_fit (if_pos h4), h4.symm⟩
end Sy
end Go.Proofs.YtckbbcjbbmgmoaaGreatDoor
namespace Go.Proofs.YtckbbcjbbmgmoaaGreatDoor
namespace Sy
open Go Go.RowKit
set_option maxRecDepth 100000
set_option linter.unusedSimpArgs false
set_option linter.unusedVariables false
/-! ### with -/
def newP (l : List Pl) (p : Pl) : Bool := !hasP l p
def wit_s (L : Seal) : Ent1 := (92, fun xs => match xs with
  | [x, .agg [.int .u8 a, .int .u8 b, .int .u8 c, .int .u8 d, .int .u16 p]] => some (L okWPl x ∧ L lenE (L rdWPl x) ∧ L OkP (L rdWPl x) ∧ L plOk (mkPl L a b c d p), .tup [lstPl L (L2 L withL (L rdWPl x) (mkPl L a b c d p)), .bool (L2 L newP (L rdWPl x) (mkPl L a b c d p))])
  | _ => none)
theorem ins_at {l : List Pl} {p : Pl} (hp : plOk p) (h : OkP l) (hn : p ∉ l) {q : Nat} : nthPl (insP p l) q = if q < lbP p l then nthPl l q else if q = lbP p l then p else nthPl l (q - 1) := by
  have hlb := lb_le (p := p) (l := l)
  rw [lb_ins hp h hn]
  unfold nthPl nthW
  simp only [List.getD_eq_getElem?_getD]
  by_cases h1 : q < lbP p l
  · rw [if_pos h1, List.getElem?_append_left (by rw [List.length_take]; omega), List.getElem?_take, if_pos h1]
  · rw [if_neg h1, List.getElem?_append_right (by rw [List.length_take]; omega), List.length_take, Nat.min_eq_left hlb]
    by_cases h2 : q = lbP p l
    · rw [if_pos h2, h2, Nat.sub_self]; rfl
    · rw [if_neg h2]
      obtain ⟨r, hr⟩ : ∃ r, q - lbP p l = r + 1 := ⟨q - lbP p l - 1, by omega⟩
      rw [hr, List.getElem?_cons_succ, List.getElem?_drop, show lbP p l + r = q - 1 by omega]
theorem wit_good : Good Tryz.prog (wit_s std) := by
  intro xs p r h hp
  dsimp only [wit_s] at h ⊢
  split at h <;> cases h
  try simp only [L2, L3, std] at hp ⊢
  rename_i x a b c d q
  obtain ⟨ho, hz, hok, hpo⟩ := hp
  refine ac_w1 plV_ok ho ?_
  have hz : lenE (rdWPl x) := hz
  have hok : OkP (rdWPl x) := hok
  have hpo : plOk ⟨a, b, c, d, q⟩ := hpo
  show ACalls _ _ (lstW std plV (rdWPl x) :: _) (.tup [lstPl std (withL (rdWPl x) ⟨a, b, c, d, q⟩), .bool (newP (rdWPl x) ⟨a, b, c, d, q⟩)])
  generalize rdWPl x = l at hz hok ⊢
  obtain ⟨p, hpp⟩ : ∃ p : Pl, p = ⟨a, b, c, d, q⟩ := ⟨_, rfl⟩
  rw [← hpp] at hpo ⊢
  refine acalls_L' (T := tt) (S := fun L => sumOfM [bsP_s L] [cloneM 97 36 5 L, insM 156 36 5 L]) (lo := fun L => noA L) (lb := noA) 5 (fn := Tryz.f92) (xs := fun L => [lstPl L l, .agg [.int .u8 a, .int .u8 b, .int .u8 c, .int .u8 d, .int .u16 q]]) rfl rfl (by kernel_rfl) (by kernel_rfl) rfl tt_ok (sumOfM_ok ⟨bsP_good, trivial⟩ ⟨clonePl_good, insPl_good, trivial⟩) (by kernel_rfl) ?_
  intro L P' Q' hL hP hQ
  have hG : ∀ y : List Pl, L rdWPl (.lst 5 (L lenW y) (fun i => plC L (L (L nthPl y) i))) = y := by subst hL; exact fun y => rdwPl y
  have hO : ∀ y : List Pl, L okWPl (.lst 5 (L lenW y) (fun i => plC L (L (L nthPl y) i))) := by subst hL; exact fun y => okwPl y
  have hw : lenW l = l.length := rfl
  have hz : l.length ≤ 1000000 := hz
  have hM : mkPl L a b c d q = p := by subst hL; exact hpp.symm
  (cbv; try simp only [sat_need, sat_must, sat_ite, sat_done, sat_yes, sat_ex, sat_all, sat_sup, sat_and, sat_fail, true_and, and_true])
  have hM2 : L (L (L (L (L Pl.mk a) b) c) d) q = p := by subst hL; exact hpp.symm
  simp only [hG, hM, hM2]
  refine ⟨⟨hO l, ?_, ?_, ?_⟩, fun hh => ?_, fun hh => ⟨fun _ _ _ _ => trivial, ?_, fun _ _ _ _ => trivial, fun _ _ _ _ => trivial, ?_, ?_⟩⟩
  · subst hL; exact hz
  · subst hL; exact hok
  · subst hL; exact hpo
  · subst hQ; subst hL
    have hm : p ∈ l := of_decide_eq_true hh
    rw [fits_tup, fitsL_cons, fitsL_cons, fitsL_nil, fits1_bool]
    refine ⟨?_, ?_, trivial⟩
    · show fits1 (.lst 5 (lenW (withL l p)) fun i => plC std (nthPl (withL l p) i)) _
      rw [fits1_lst, withL, if_pos hm]
      exact ⟨rfl, fun _ _ _ _ => rfl⟩
    · show false = !hasP l p
      rw [show hasP l p = true from hh]; rfl
  · subst hL; exact hz
  · subst hL
    exact ⟨hz, Int.natCast_nonneg _, Int.ofNat_le.2 lb_le⟩
  · subst hQ; subst hL
    have hm : p ∉ l := of_decide_eq_false hh
    have hwl : withL l p = insP p l := if_neg hm
    rw [fits_tup, fitsL_cons, fitsL_cons, fitsL_nil, fits1_bool]
    refine ⟨?_, ?_, trivial⟩
    · show fits1 (.lst 5 (lenW (withL l p)) fun i => plC std (nthPl (withL l p) i)) _
      rw [fits1_lst, hwl]
      refine ⟨(insP_len (p := p) (l := l)).symm, fun i j hi hj => ?_⟩
      show insG (fun i => plC std (nthPl l i)) (fun i j => lget AV.dead [.int .u8 a, .int .u8 b, .int .u8 c, .int .u8 d, .int .u16 q] (i * 5 + j)) (lbP p l) (0 + i) j = plC std (nthPl (insP p l) i) j
      rw [Nat.zero_add, ins_at hpo hok hm]
      unfold insG
      split
      · rfl
      · split
        · rw [show lget AV.dead [.int .u8 a, .int .u8 b, .int .u8 c, .int .u8 d, .int .u16 q] (0 * 5 + j) = plC std p j from ?_]
          subst hpp
          rcases j with _ | _ | _ | _ | _ | j
          · rfl
          · rfl
          · rfl
          · rfl
          · rfl
          · omega
        · rfl
    · show true = !hasP l p
      rw [show hasP l p = false from hh]; rfl
end Sy
end Go.Proofs.YtckbbcjbbmgmoaaGreatDoor
namespace Go.Proofs.YtckbbcjbbmgmoaaGreatDoor
namespace Sy
open Go Go.RowKit
set_option maxRecDepth 100000
set_option linter.unusedSimpArgs false
set_option linter.unusedVariables false
/-- A Giver, a Taker. -/
structure Gv where
  e : Int
  l : List Pl
  deriving DecidableEq
def gvC (L : Seal) (x : Gv) : Nat → AV
  | 0 => .int .u64 (L Gv.e x)
  | _ => lstPl L (L Gv.l x)
def gvV : Vw Gv := ⟨2, gvC, fun c => ⟨(c 0).toI, rdW plV (c 1)⟩, fun c => isI .u64 (c 0) ∧ okW plV (c 1), ⟨0, []⟩⟩
def okGGv (x : AV) : Prop := okG gvV x
def rdGGv (x : AV) : Gv := rdG gvV x
theorem gvV_ok : VwOk gvV := by
  refine ⟨fun c hc j hj h D μ v r => ?_, fun c x hx => ?_⟩
  · obtain ⟨h0, h1⟩ := hc
    match j, hj with
    | 0, _ => exact isI_R h0 r
    | 1, _ => exact okW_R plV_ok h1 r
  · have e0 := hx 0 (by decide)
    have e1 : c 1 = lstW std plV x.l := hx 1 (by decide)
    obtain ⟨k1, k2⟩ := rdW_lst plV_ok x.l
    rw [← e1] at k1 k2
    refine ⟨⟨⟨_, e0⟩, k1⟩, ?_⟩
    show Gv.mk ((c 0).toI) (rdW plV (c 1)) = x
    rw [k2, e0]; rfl
def gvA (L : Seal) (g : Gv) : AV := .agg [.int .u64 (L Gv.e g), lstPl L (L Gv.l g)]
theorem rdgGv (g : Gv) : rdGGv (gvA std g) = g := (gK gvV_ok g _ rfl).2
theorem okgGv (g : Gv) : okGGv (gvA std g) := (gK gvV_ok g _ rfl).1
def gvOk (g : Gv) : Prop := (0 ≤ g.e ∧ g.e < 18446744073709551616) ∧ OkP g.l ∧ g.l.length ≤ 1000000
/-! ### Done -/
def doneG (g : Gv) : Bool := decide (g.l = [])
def done_s (L : Seal) : Ent1 := (39, fun xs => match xs with
  | [x] => some (L okGGv x, .bool (L doneG (L rdGGv x)))
  | _ => none)
theorem done_good : Good Tryz.prog (done_s std) := by
  intro xs p r h hp
  dsimp only [done_s] at h ⊢
  split at h <;> cases h
  try simp only [L2, L3, std] at hp ⊢
  rename_i x
  refine ac_g gvV_ok hp ?_
  show ACalls _ _ _ (.bool (doneG (rdGGv x)))
  show ACalls _ _ (gvA std (rdGGv x) :: _) _
  generalize rdGGv x = g
  refine acalls_L' (T := tt) (S := fun L => sumOf []) (lo := fun L => noA L) (lb := noA) 5 (fn := Tryz.f39) (xs := fun L => [gvA L g]) rfl rfl (by kernel_rfl) (by kernel_rfl) rfl tt_ok (sumOf_ok trivial) (by kernel_rfl) ?_
  intro L P' Q' hL hP hQ
  (cbv; try simp only [sat_need, sat_must, sat_ite, sat_done, sat_yes, sat_ex, sat_all, sat_sup, sat_and, sat_fail, true_and, and_true])
  (subst hL; subst hQ; simp only [L2, L3, std] at *; try simp only [sySet, reduceCtorEq, forall_const, Int.reduceToNat, Int.reduceAdd, Int.reduceSub, Int.cast_ofNat_Int, Int.toNat_natCast, Nat.le_eq, Nat.sub_eq, ne_eq, Decidable.not_not, implies_true, true_and, and_true, wadd, wsub, wmul, decide_eq_true_eq, decide_eq_false_iff_not, Nat.succ_eq_add_one, imp_false, not_false_eq_true, not_true_eq_false, false_imp_iff, true_imp_iff] at *)
  show ieq (g.l.length : Int) 0 = decide (g.l = [])
  unfold ieq
  rcases g with ⟨e, _ | ⟨p, l⟩⟩
  · rfl
  · simp
    omega
/-! ### Messages -/
def lenG (g : Gv) : Nat := g.l.length
def msgN (g : Gv) (i : Nat) : List UInt8 := hmT 16 g.e (nthPl g.l i)
def gvIn (g : Gv) : Prop := (0 ≤ g.e ∧ g.e < 18446744073709551616) ∧ allP g.l ∧ g.l.length ≤ 1000000
def msgs_s (L : Seal) : Ent1 := (33, fun xs => match xs with
  | [x] => some (L okGGv x ∧ L gvIn (L rdGGv x), .lst 1 (L lenG (L rdGGv x)) (fun i _ => .str (L (L msgN (L rdGGv x)) i)))
  | _ => none)
def leG (g : Gv) (i : Nat) : Prop := i ≤ g.l.length
def toG (g : Gv) (i : Nat) : Nat := g.l.length - i
def msgsA (L : Seal) (g : Gv) : Nat → St → Option Ann := fun id st => match id with
  | 0 => some ⟨Nat, fun i => [(9, .int .i64 (L natI i)), (3, .sl 900 1 0 i)], fun i => [(900, .row 9 1 i (fun j _ => .str (L (L msgN g) j)))], [1, 7, 8], [1], fun i => L2 L leG g i, fun i => L2 L toG g i⟩
  | _ => none
theorem msgs_good : Good Tryz.prog (msgs_s std) := by
  intro xs p r h hp
  dsimp only [msgs_s] at h ⊢
  split at h <;> cases h
  try simp only [L2, L3, std] at hp ⊢
  rename_i x
  refine ac_g gvV_ok hp.1 ?_
  have hp : gvIn (rdGGv x) := hp.2
  show ACalls _ _ (gvA std (rdGGv x) :: _) (.lst 1 (lenG (rdGGv x)) (fun i _ => .str (msgN (rdGGv x) i)))
  generalize rdGGv x = g at hp ⊢
  obtain ⟨he, ha, hz⟩ := hp
  refine acalls_L' (T := tt) (S := fun L => sumOf [hm_s 26 L]) (lo := fun L => msgsA L g) (lb := noA) 5 (fn := Tryz.f33) (xs := fun L => [gvA L g]) rfl rfl (by kernel_rfl) (by kernel_rfl) rfl tt_ok (sumOf_ok ⟨hm_good, trivial⟩) (by kernel_rfl) ?_
  intro L P' Q' hL hP hQ
  (cbv; try simp only [sat_need, sat_must, sat_ite, sat_done, sat_yes, sat_ex, sat_all, sat_sup, sat_and, sat_fail, true_and, and_true])
  refine ⟨⟨0, ?_⟩, fun i hi => ?_⟩
  · (cbv; try simp only [sat_need, sat_must, sat_ite, sat_done, sat_yes, sat_ex, sat_all, sat_sup, sat_and, sat_fail, true_and, and_true])
    (subst hL; subst hQ; simp only [L2, L3, std] at *; try simp only [sySet, reduceCtorEq, forall_const, Int.reduceToNat, Int.reduceAdd, Int.reduceSub, Int.cast_ofNat_Int, Int.toNat_natCast, Nat.le_eq, Nat.sub_eq, ne_eq, Decidable.not_not, implies_true, true_and, and_true, wadd, wsub, wmul, decide_eq_true_eq, decide_eq_false_iff_not, Nat.succ_eq_add_one, imp_false, not_false_eq_true, not_true_eq_false, false_imp_iff, true_imp_iff] at *)
    exact Nat.zero_le _
  · cbv at hi
    (cbv; try simp only [sat_need, sat_must, sat_ite, sat_done, sat_yes, sat_ex, sat_all, sat_sup, sat_and, sat_fail, true_and, and_true])
    have hE : ∀ y : Pl, L (L (L (L (L Pl.mk (L Pl.a y)) (L Pl.b y)) (L Pl.c y)) (L Pl.d y)) (L Pl.p y) = y := by subst hL; intro y; rfl
    have hi2 : i ≤ g.l.length := by
      have h := hi
      rw [hL] at h
      exact h
    have hlw : lenW g.l = g.l.length := rfl
    simp only [hE]
    refine ⟨fun hlt => ⟨?_, ?_, ?_, ⟨i + 1, ?_⟩⟩, fun hge => ?_⟩
    · (subst hL; subst hQ; simp only [L2, L3, std] at *; try simp only [sySet, reduceCtorEq, forall_const, Int.reduceToNat, Int.reduceAdd, Int.reduceSub, Int.cast_ofNat_Int, Int.toNat_natCast, Nat.le_eq, Nat.sub_eq, ne_eq, Decidable.not_not, implies_true, true_and, and_true, wadd, wsub, wmul, decide_eq_true_eq, decide_eq_false_iff_not, Nat.succ_eq_add_one, imp_false, not_false_eq_true, not_true_eq_false, false_imp_iff, true_imp_iff] at *)
      omega
    · (subst hL; subst hQ; simp only [L2, L3, std] at *; try simp only [sySet, reduceCtorEq, forall_const, Int.reduceToNat, Int.reduceAdd, Int.reduceSub, Int.cast_ofNat_Int, Int.toNat_natCast, Nat.le_eq, Nat.sub_eq, ne_eq, Decidable.not_not, implies_true, true_and, and_true, wadd, wsub, wmul, decide_eq_true_eq, decide_eq_false_iff_not, Nat.succ_eq_add_one, imp_false, not_false_eq_true, not_true_eq_false, false_imp_iff, true_imp_iff] at *)
      refine ⟨he, ?_⟩
      rw [nthPl_at (by omega)]
      exact ha _ (List.getElem_mem _)
    · (subst hL; subst hQ; simp only [L2, L3, std] at *; try simp only [sySet, reduceCtorEq, forall_const, Int.reduceToNat, Int.reduceAdd, Int.reduceSub, Int.cast_ofNat_Int, Int.toNat_natCast, Nat.le_eq, Nat.sub_eq, ne_eq, Decidable.not_not, implies_true, true_and, and_true, wadd, wsub, wmul, decide_eq_true_eq, decide_eq_false_iff_not, Nat.succ_eq_add_one, imp_false, not_false_eq_true, not_true_eq_false, false_imp_iff, true_imp_iff] at *)
      omega
    · (cbv; try simp only [sat_need, sat_must, sat_ite, sat_done, sat_yes, sat_ex, sat_all, sat_sup, sat_and, sat_fail, true_and, and_true])
      try simp only [hE]
      (subst hL; subst hQ; simp only [L2, L3, std] at *; try simp only [sySet, reduceCtorEq, forall_const, Int.reduceToNat, Int.reduceAdd, Int.reduceSub, Int.cast_ofNat_Int, Int.toNat_natCast, Nat.le_eq, Nat.sub_eq, ne_eq, Decidable.not_not, implies_true, true_and, and_true, wadd, wsub, wmul, decide_eq_true_eq, decide_eq_false_iff_not, Nat.succ_eq_add_one, imp_false, not_false_eq_true, not_true_eq_false, false_imp_iff, true_imp_iff] at *)
      refine ⟨fun k j hk hj => ?_, by omega, by show i + 1 ≤ _; omega, by show g.l.length - (i + 1) + 1 ≤ g.l.length - i; omega⟩
      by_cases hk' : k < i
      · rw [blt_t hk']; rfl
      · have : k = i := by omega
        subst this
        rw [blt_f (by omega), Nat.sub_self]
        match j, hj with
        | 0, _ => rfl
    · (subst hL; subst hQ; simp only [L2, L3, std] at *; try simp only [sySet, reduceCtorEq, forall_const, Int.reduceToNat, Int.reduceAdd, Int.reduceSub, Int.cast_ofNat_Int, Int.toNat_natCast, Nat.le_eq, Nat.sub_eq, ne_eq, Decidable.not_not, implies_true, true_and, and_true, wadd, wsub, wmul, decide_eq_true_eq, decide_eq_false_iff_not, Nat.succ_eq_add_one, imp_false, not_false_eq_true, not_true_eq_false, false_imp_iff, true_imp_iff] at *)
      show i = g.l.length
      omega
/-! ### Give -/
def gaveN (l : List Pl) (i : Nat) : List Pl := giveL [] (l.take i)
def gaveL (l : List Pl) : List Pl := giveL [] l
def leN {α : Type} (l : List α) (i : Nat) : Prop := i ≤ l.length
def toN {α : Type} (l : List α) (i : Nat) : Nat := l.length - i
def give_s (L : Seal) : Ent1 := (30, fun xs => match xs with
  | [.int .u64 e, x] => some (L okWPl x ∧ L lenE (L rdWPl x) ∧ L allP (L rdWPl x), .agg [.int .u64 e, lstPl L (L gaveL (L rdWPl x))])
  | _ => none)
def giveA (L : Seal) (e : Int) (l : List Pl) : Nat → St → Option Ann := fun id st => match id with
  | 0 => some ⟨Nat, fun i => [(12, .int .i64 (L natI i)), (5, .ref 5 0)], fun i => [(5, .box 80 [.int .u64 e, lstPl L (L (L gaveN l) i)])], [4, 10, 11], [4], fun i => L2 L leN l i, fun i => L2 L toN l i⟩
  | _ => none
theorem gaveN_len {l : List Pl} {i : Nat} (h : i ≤ l.length) : (gaveN l i).length ≤ i := by
  have := give_len (l := l.take i) (g := [])
  rw [List.length_take, Nat.min_eq_left h] at this
  unfold gaveN
  simpa using this
theorem gaveN_ok {l : List Pl} (h : allP l) (i : Nat) : OkP (gaveN l i) := okP_give (fun x hx => h x (List.mem_of_mem_take hx)) okP_nil
theorem gaveN_step {l : List Pl} {i : Nat} (h : i < l.length) : withL (gaveN l i) (nthPl l i) = gaveN l (i + 1) := by
  unfold gaveN
  rw [List.take_succ_eq_append_getElem h, give_snoc, nthPl_at h]
theorem give_good : Good Tryz.prog (give_s std) := by
  intro xs p r h hp
  dsimp only [give_s] at h ⊢
  split at h <;> cases h
  try simp only [L2, L3, std] at hp ⊢
  rename_i e x
  obtain ⟨ho, hz, ha⟩ := hp
  refine ac_w2 plV_ok ho ?_
  have hz : lenE (rdWPl x) := hz
  have ha : allP (rdWPl x) := ha
  show ACalls _ _ (_ :: lstW std plV (rdWPl x) :: _) (.agg [.int .u64 e, lstPl std (gaveL (rdWPl x))])
  generalize rdWPl x = l at hz ha ⊢
  have hz : l.length ≤ 1000000 := hz
  have hlw : lenW l = l.length := rfl
  refine acalls_L' (T := tt) (S := fun L => sumOf [wit_s L]) (lo := fun L => giveA L e l) (lb := noA) 5 (fn := Tryz.f30) (xs := fun L => [.int .u64 e, lstPl L l]) rfl rfl (by kernel_rfl) (by kernel_rfl) rfl tt_ok (sumOf_ok ⟨wit_good, trivial⟩) (by kernel_rfl) ?_
  intro L P' Q' hL hP hQ
  have hG : ∀ y : List Pl, L rdWPl (.lst 5 (L lenW y) (fun i => plC L (L (L nthPl y) i))) = y := by subst hL; exact fun y => rdwPl y
  have hO : ∀ y : List Pl, L okWPl (.lst 5 (L lenW y) (fun i => plC L (L (L nthPl y) i))) := by subst hL; exact fun y => okwPl y
  have hE : ∀ y : Pl, L (L (L (L (L Pl.mk (L Pl.a y)) (L Pl.b y)) (L Pl.c y)) (L Pl.d y)) (L Pl.p y) = y := by subst hL; intro y; rfl
  (cbv; try simp only [sat_need, sat_must, sat_ite, sat_done, sat_yes, sat_ex, sat_all, sat_sup, sat_and, sat_fail, true_and, and_true])
  refine ⟨⟨0, ?_⟩, fun i hi => ?_⟩
  · (cbv; try simp only [sat_need, sat_must, sat_ite, sat_done, sat_yes, sat_ex, sat_all, sat_sup, sat_and, sat_fail, true_and, and_true])
    (subst hL; subst hQ; simp only [L2, L3, std] at *; try simp only [sySet, reduceCtorEq, forall_const, Int.reduceToNat, Int.reduceAdd, Int.reduceSub, Int.cast_ofNat_Int, Int.toNat_natCast, Nat.le_eq, Nat.sub_eq, ne_eq, Decidable.not_not, implies_true, true_and, and_true, wadd, wsub, wmul, decide_eq_true_eq, decide_eq_false_iff_not, Nat.succ_eq_add_one, imp_false, not_false_eq_true, not_true_eq_false, false_imp_iff, true_imp_iff] at *)
    exact ⟨rfl, Nat.zero_le _⟩
  · cbv at hi
    have hE2 : ∀ y : Pl, mkPl L (L Pl.a y) (L Pl.b y) (L Pl.c y) (L Pl.d y) (L Pl.p y) = y := by subst hL; intro y; rfl
    have hi2 : i ≤ l.length := by
      have h := hi
      rw [hL] at h
      exact h
    have hgl := gaveN_len hi2
    have hgo := gaveN_ok ha i
    (cbv; try simp only [sat_need, sat_must, sat_ite, sat_done, sat_yes, sat_ex, sat_all, sat_sup, sat_and, sat_fail, true_and, and_true])
    simp only [hE, hG, hE2]
    refine ⟨fun hlt => ⟨?_, ⟨hO _, ?_, ?_, ?_⟩, ⟨i + 1, ?_⟩⟩, fun hge => ?_⟩
    · (subst hL; subst hQ; simp only [L2, L3, std] at *; try simp only [sySet, reduceCtorEq, forall_const, Int.reduceToNat, Int.reduceAdd, Int.reduceSub, Int.cast_ofNat_Int, Int.toNat_natCast, Nat.le_eq, Nat.sub_eq, ne_eq, Decidable.not_not, implies_true, true_and, and_true, wadd, wsub, wmul, decide_eq_true_eq, decide_eq_false_iff_not, Nat.succ_eq_add_one, imp_false, not_false_eq_true, not_true_eq_false, false_imp_iff, true_imp_iff] at *)
      omega
    · (subst hL; subst hQ; simp only [L2, L3, std] at *; try simp only [sySet, reduceCtorEq, forall_const, Int.reduceToNat, Int.reduceAdd, Int.reduceSub, Int.cast_ofNat_Int, Int.toNat_natCast, Nat.le_eq, Nat.sub_eq, ne_eq, Decidable.not_not, implies_true, true_and, and_true, wadd, wsub, wmul, decide_eq_true_eq, decide_eq_false_iff_not, Nat.succ_eq_add_one, imp_false, not_false_eq_true, not_true_eq_false, false_imp_iff, true_imp_iff] at *)
      show _ ≤ 1000000
      omega
    · (subst hL; subst hQ; simp only [L2, L3, std] at *; try simp only [sySet, reduceCtorEq, forall_const, Int.reduceToNat, Int.reduceAdd, Int.reduceSub, Int.cast_ofNat_Int, Int.toNat_natCast, Nat.le_eq, Nat.sub_eq, ne_eq, Decidable.not_not, implies_true, true_and, and_true, wadd, wsub, wmul, decide_eq_true_eq, decide_eq_false_iff_not, Nat.succ_eq_add_one, imp_false, not_false_eq_true, not_true_eq_false, false_imp_iff, true_imp_iff] at *)
      exact hgo
    · (subst hL; subst hQ; simp only [L2, L3, std] at *; try simp only [sySet, reduceCtorEq, forall_const, Int.reduceToNat, Int.reduceAdd, Int.reduceSub, Int.cast_ofNat_Int, Int.toNat_natCast, Nat.le_eq, Nat.sub_eq, ne_eq, Decidable.not_not, implies_true, true_and, and_true, wadd, wsub, wmul, decide_eq_true_eq, decide_eq_false_iff_not, Nat.succ_eq_add_one, imp_false, not_false_eq_true, not_true_eq_false, false_imp_iff, true_imp_iff] at *)
      rw [nthPl_at (by omega)]
      exact ha _ (List.getElem_mem _)
    · (cbv; try simp only [sat_need, sat_must, sat_ite, sat_done, sat_yes, sat_ex, sat_all, sat_sup, sat_and, sat_fail, true_and, and_true])
      try simp only [hE, hG, hE2]
      (subst hL; subst hQ; simp only [L2, L3, std] at *; try simp only [sySet, reduceCtorEq, forall_const, Int.reduceToNat, Int.reduceAdd, Int.reduceSub, Int.cast_ofNat_Int, Int.toNat_natCast, Nat.le_eq, Nat.sub_eq, ne_eq, Decidable.not_not, implies_true, true_and, and_true, wadd, wsub, wmul, decide_eq_true_eq, decide_eq_false_iff_not, Nat.succ_eq_add_one, imp_false, not_false_eq_true, not_true_eq_false, false_imp_iff, true_imp_iff] at *)
      rw [gaveN_step (by omega)]
      exact ⟨⟨rfl, fun _ _ _ _ => rfl⟩, by omega, by show i + 1 ≤ _; omega, by show l.length - (i + 1) + 1 ≤ l.length - i; omega⟩
    · (subst hL; subst hQ; simp only [L2, L3, std] at *; try simp only [sySet, reduceCtorEq, forall_const, Int.reduceToNat, Int.reduceAdd, Int.reduceSub, Int.cast_ofNat_Int, Int.toNat_natCast, Nat.le_eq, Nat.sub_eq, ne_eq, Decidable.not_not, implies_true, true_and, and_true, wadd, wsub, wmul, decide_eq_true_eq, decide_eq_false_iff_not, Nat.succ_eq_add_one, imp_false, not_false_eq_true, not_true_eq_false, false_imp_iff, true_imp_iff] at *)
      have hg : gaveL l = gaveN l i := by
        unfold gaveL gaveN
        rw [List.take_of_length_le (by omega)]
      rw [hg]
      show fits1 (.agg [.lst 5 (lenW (gaveN l i)) fun q => plC std (nthPl (gaveN l i) q)]) _
      rw [fits1_aggl, fits1_agg0]
      exact ⟨⟨rfl, fun _ _ _ _ => rfl⟩, trivial⟩
/-! ### The Taker's Take -/
def tkQ (g : Gv) (s : List UInt8) : Pl := rdQ s 16 g.e
def tkE (g : Gv) (s : List UInt8) : Int := if rdE s 16 g.e ≠ 0 then rdE s 16 g.e else if newP g.l (tkQ g s) = true then 0 else 11
def tkG (g : Gv) (s : List UInt8) : Gv := if tkE g s = 0 then ⟨g.e, withL g.l (tkQ g s)⟩ else g
def tkP (g : Gv) (s : List UInt8) : Pl := if tkE g s = 0 then tkQ g s else pl0
def tkS (g : Gv) (s : List UInt8) : List UInt8 := if rdE s 16 g.e = 0 then hmT 17 g.e (tkQ g s) else []
theorem gv_fit {g g1 : Gv} (h : g = g1) : fits1 (gvA std g1) (.agg [.int .u64 g.e, .lst 5 (lenW g.l) (fun i => plC std (nthPl g.l i))]) := by
  subst h
  show fits1 (.agg [.int .u64 g.e, .lst 5 (lenW g.l) (fun i => plC std (nthPl g.l i))]) _
  rw [fits1_aggi, fits1_aggl, fits1_agg0]
  exact ⟨rfl, ⟨rfl, fun _ _ _ _ => rfl⟩, trivial⟩
theorem tk_bad {g : Gv} {s : List UInt8} (h : ¬ rdE s 16 g.e = 0) : tkE g s = rdE s 16 g.e ∧ tkG g s = g ∧ tkP g s = pl0 ∧ tkS g s = [] := by
  have e : tkE g s = rdE s 16 g.e := if_pos h
  refine ⟨e, ?_, ?_, if_neg h⟩
  · rw [tkG, if_neg (by rw [e]; exact h)]
  · rw [tkP, if_neg (by rw [e]; exact h)]
theorem tk_old {g : Gv} {s : List UInt8} (h : rdE s 16 g.e = 0) (h2 : newP g.l (rdQ s 16 g.e) = false) : tkE g s = 11 ∧ tkG g s = g ∧ tkP g s = pl0 ∧ tkS g s = hmT 17 g.e (rdQ s 16 g.e) := by
  have e : tkE g s = 11 := by
    rw [tkE, if_neg (by simp [h]), if_neg]
    show ¬ newP g.l (rdQ s 16 g.e) = true
    rw [h2]; decide
  refine ⟨e, ?_, ?_, if_pos h⟩
  · rw [tkG, if_neg (by rw [e]; decide)]
  · rw [tkP, if_neg (by rw [e]; decide)]
theorem tk_new {g : Gv} {s : List UInt8} (h : rdE s 16 g.e = 0) (h2 : newP g.l (rdQ s 16 g.e) = true) : tkE g s = 0 ∧ tkG g s = ⟨g.e, withL g.l (rdQ s 16 g.e)⟩ ∧ tkP g s = rdQ s 16 g.e ∧ tkS g s = hmT 17 g.e (rdQ s 16 g.e) := by
  have e : tkE g s = 0 := by
    rw [tkE, if_neg (by simp [h]), if_pos]
    exact h2
  refine ⟨e, ?_, ?_, if_pos h⟩
  · rw [tkG, if_pos e]; rfl
  · rw [tkP, if_pos e]; rfl
def ttake_s (L : Seal) : Ent1 := (34, fun xs => match xs with
  | [x, .str s] => some (L okGGv x ∧ L gvOk (L rdGGv x) ∧ L2 L upto 900000 s, .tup [gvA L (L2 L tkG (L rdGGv x) s), plA L (L2 L tkP (L rdGGv x) s), .str (L2 L tkS (L rdGGv x) s), .int .i64 (L2 L tkE (L rdGGv x) s)])
  | _ => none)
theorem ttake_good : Good Tryz.prog (ttake_s std) := by
  intro xs p r h hp
  dsimp only [ttake_s] at h ⊢
  split at h <;> cases h
  try simp only [L2, L3, std] at hp ⊢
  rename_i x s
  obtain ⟨ho, hg, hs⟩ := hp
  refine ac_g gvV_ok ho ?_
  have hg : gvOk (rdGGv x) := hg
  have hs : s.length ≤ 900000 := hs
  show ACalls _ _ (gvA std (rdGGv x) :: _) (.tup [gvA std (tkG (rdGGv x) s), plA std (tkP (rdGGv x) s), .str (tkS (rdGGv x) s), .int .i64 (tkE (rdGGv x) s)])
  generalize rdGGv x = g at hg ⊢
  obtain ⟨he, hok, hz⟩ := hg
  refine acalls_L' (T := tt) (S := fun L => sumOf [hm_s 26 L, hrd_s L, wit_s L]) (lo := fun L => noA L) (lb := noA) 5 (fn := Tryz.f34) (xs := fun L => [gvA L g, .str s]) rfl rfl (by kernel_rfl) (by kernel_rfl) rfl tt_ok (sumOf_ok ⟨hm_good, hrd_good, wit_good, trivial⟩) (by kernel_rfl) ?_
  intro L P' Q' hL hP hQ
  have hG : ∀ y : List Pl, L rdWPl (.lst 5 (L lenW y) (fun i => plC L (L (L nthPl y) i))) = y := by subst hL; exact fun y => rdwPl y
  have hO : ∀ y : List Pl, L okWPl (.lst 5 (L lenW y) (fun i => plC L (L (L nthPl y) i))) := by subst hL; exact fun y => okwPl y
  have hE : ∀ y : Pl, L (L (L (L (L Pl.mk (L Pl.a y)) (L Pl.b y)) (L Pl.c y)) (L Pl.d y)) (L Pl.p y) = y := by subst hL; intro y; rfl
  have hE2 : ∀ y : Pl, mkPl L (L Pl.a y) (L Pl.b y) (L Pl.c y) (L Pl.d y) (L Pl.p y) = y := by subst hL; intro y; rfl
  (cbv; try simp only [sat_need, sat_must, sat_ite, sat_done, sat_yes, sat_ex, sat_all, sat_sup, sat_and, sat_fail, true_and, and_true])
  simp only [hG, hE, hE2]
  have hq := rdQ_ok s 16 g.e
  refine ⟨?_, fun h1 => ?_, fun h1 => ⟨?_, ⟨hO _, ?_, ?_, ?_⟩, fun h2 => ?_, fun h2 => ?_⟩⟩
  · (subst hL; subst hQ; simp only [L2, L3, std] at *; try simp only [sySet, reduceCtorEq, forall_const, Int.reduceToNat, Int.reduceAdd, Int.reduceSub, Int.cast_ofNat_Int, Int.toNat_natCast, Nat.le_eq, Nat.sub_eq, ne_eq, Decidable.not_not, implies_true, true_and, and_true, wadd, wsub, wmul, decide_eq_true_eq, decide_eq_false_iff_not, Nat.succ_eq_add_one, imp_false, not_false_eq_true, not_true_eq_false, false_imp_iff, true_imp_iff] at *)
    exact hs
  · (subst hL; subst hQ; simp only [L2, L3, std] at *; try simp only [sySet, reduceCtorEq, forall_const, Int.reduceToNat, Int.reduceAdd, Int.reduceSub, Int.cast_ofNat_Int, Int.toNat_natCast, Nat.le_eq, Nat.sub_eq, ne_eq, Decidable.not_not, implies_true, true_and, and_true, wadd, wsub, wmul, decide_eq_true_eq, decide_eq_false_iff_not, Nat.succ_eq_add_one, imp_false, not_false_eq_true, not_true_eq_false, false_imp_iff, true_imp_iff] at *)
    obtain ⟨k0, k1, k2, k3⟩ := tk_bad h1
    exact ⟨gv_fit k1.symm, pl_fit k2, k3.symm, k0.symm⟩
  · (subst hL; subst hQ; simp only [L2, L3, std] at *; try simp only [sySet, reduceCtorEq, forall_const, Int.reduceToNat, Int.reduceAdd, Int.reduceSub, Int.cast_ofNat_Int, Int.toNat_natCast, Nat.le_eq, Nat.sub_eq, ne_eq, Decidable.not_not, implies_true, true_and, and_true, wadd, wsub, wmul, decide_eq_true_eq, decide_eq_false_iff_not, Nat.succ_eq_add_one, imp_false, not_false_eq_true, not_true_eq_false, false_imp_iff, true_imp_iff] at *)
    exact ⟨he, hq⟩
  · (subst hL; subst hQ; simp only [L2, L3, std] at *; try simp only [sySet, reduceCtorEq, forall_const, Int.reduceToNat, Int.reduceAdd, Int.reduceSub, Int.cast_ofNat_Int, Int.toNat_natCast, Nat.le_eq, Nat.sub_eq, ne_eq, Decidable.not_not, implies_true, true_and, and_true, wadd, wsub, wmul, decide_eq_true_eq, decide_eq_false_iff_not, Nat.succ_eq_add_one, imp_false, not_false_eq_true, not_true_eq_false, false_imp_iff, true_imp_iff] at *)
    exact hz
  · (subst hL; subst hQ; simp only [L2, L3, std] at *; try simp only [sySet, reduceCtorEq, forall_const, Int.reduceToNat, Int.reduceAdd, Int.reduceSub, Int.cast_ofNat_Int, Int.toNat_natCast, Nat.le_eq, Nat.sub_eq, ne_eq, Decidable.not_not, implies_true, true_and, and_true, wadd, wsub, wmul, decide_eq_true_eq, decide_eq_false_iff_not, Nat.succ_eq_add_one, imp_false, not_false_eq_true, not_true_eq_false, false_imp_iff, true_imp_iff] at *)
    exact hok
  · (subst hL; subst hQ; simp only [L2, L3, std] at *; try simp only [sySet, reduceCtorEq, forall_const, Int.reduceToNat, Int.reduceAdd, Int.reduceSub, Int.cast_ofNat_Int, Int.toNat_natCast, Nat.le_eq, Nat.sub_eq, ne_eq, Decidable.not_not, implies_true, true_and, and_true, wadd, wsub, wmul, decide_eq_true_eq, decide_eq_false_iff_not, Nat.succ_eq_add_one, imp_false, not_false_eq_true, not_true_eq_false, false_imp_iff, true_imp_iff] at *)
    exact hq
  · (subst hL; subst hQ; simp only [L2, L3, std] at *; try simp only [sySet, reduceCtorEq, forall_const, Int.reduceToNat, Int.reduceAdd, Int.reduceSub, Int.cast_ofNat_Int, Int.toNat_natCast, Nat.le_eq, Nat.sub_eq, ne_eq, Decidable.not_not, implies_true, true_and, and_true, wadd, wsub, wmul, decide_eq_true_eq, decide_eq_false_iff_not, Nat.succ_eq_add_one, imp_false, not_false_eq_true, not_true_eq_false, false_imp_iff, true_imp_iff] at *)
    obtain ⟨k0, k1, k2, k3⟩ := tk_old h1 h2
    exact ⟨gv_fit k1.symm, pl_fit k2, k3.symm, k0.symm⟩
  · (subst hL; subst hQ; simp only [L2, L3, std] at *; try simp only [sySet, reduceCtorEq, forall_const, Int.reduceToNat, Int.reduceAdd, Int.reduceSub, Int.cast_ofNat_Int, Int.toNat_natCast, Nat.le_eq, Nat.sub_eq, ne_eq, Decidable.not_not, implies_true, true_and, and_true, wadd, wsub, wmul, decide_eq_true_eq, decide_eq_false_iff_not, Nat.succ_eq_add_one, imp_false, not_false_eq_true, not_true_eq_false, false_imp_iff, true_imp_iff] at *)
    obtain ⟨k0, k1, k2, k3⟩ := tk_new h1 h2
    refine ⟨gv_fit (g := ⟨g.e, withL g.l (rdQ s 16 g.e)⟩) k1.symm, ?_, k3.symm, k0.symm⟩
    rw [k2]
    exact pl_fit rfl
end Sy
end Go.Proofs.YtckbbcjbbmgmoaaGreatDoor
namespace Go.Proofs.YtckbbcjbbmgmoaaGreatDoor
namespace Sy
open Go Go.RowKit
set_option maxRecDepth 100000
set_option linter.unusedSimpArgs false
set_option linter.unusedVariables false
/-! ### The predicate -/
def eqP (p x : Pl) : Bool := decide (x = p)
theorem eqP_ieq (a b c d q a1 b1 c1 d1 q1 : Int) : ((ieq a a1 && (ieq b b1 && (ieq c c1 && (ieq d d1 && true)))) && (ieq q q1 && true)) = eqP ⟨a1, b1, c1, d1, q1⟩ ⟨a, b, c, d, q⟩ := by
  rw [Bool.eq_iff_iff]
  simp only [ieq, eqP, Bool.and_eq_true, decide_eq_true_eq, beq_iff_eq, Pl.mk.injEq, and_true]
  constructor
  · rintro ⟨⟨h1, h2, h3, h4⟩, h5⟩
    exact ⟨h1, h2, h3, h4, h5⟩
  · rintro ⟨h1, h2, h3, h4, h5⟩
    exact ⟨⟨h1, h2, h3, h4⟩, h5⟩
def takeP_m (L : Seal) : EntM := (98, fun raw ob => match raw with
  | [.agg [.int .u8 a, .int .u8 b, .int .u8 c, .int .u8 d, .int .u16 q], .ref k 0] => match ob k with
    | some (.box _ [.int .u8 a1, .int .u8 b1, .int .u8 c1, .int .u8 d1, .int .u16 q1]) => some ⟨[.agg [.int .u8 a, .int .u8 b, .int .u8 c, .int .u8 d, .int .u16 q], .ref 500000 0], [(500000, .box 36 [.int .u8 a1, .int .u8 b1, .int .u8 c1, .int .u8 d1, .int .u16 q1])], True, .bool (L2 L eqP (mkPl L a1 b1 c1 d1 q1) (mkPl L a b c d q)), [(500000, .box 36 [.int .u8 a1, .int .u8 b1, .int .u8 c1, .int .u8 d1, .int .u16 q1])]⟩
    | _ => none
  | _ => none)
theorem takeP_good : GoodM Tryz.prog (takeP_m std) := by
  intro raw ob T h hp
  unfold takeP_m at h
  simp only at h
  split at h
  rotate_left
  · cases h
  rename_i a b c d q k
  split at h
  rotate_left
  · cases h
  rename_i t a1 b1 c1 d1 q1 _
  cases h
  refine mcalls_L (T := tt) (S := fun L => sumOfM [] []) (lo := noA) (lb := noA) 5 (fn := Tryz.f98) (xs := fun L => [.agg [.int .u8 a, .int .u8 b, .int .u8 c, .int .u8 d, .int .u16 q], .ref 500000 0]) (rts := fun L => [.bool (L2 L eqP (mkPl L a1 b1 c1 d1 q1) (mkPl L a b c d q))]) (O := fun L => [(500000, .box 36 [.int .u8 a1, .int .u8 b1, .int .u8 c1, .int .u8 d1, .int .u16 q1])]) (O1 := fun L => [(500000, .box 36 [.int .u8 a1, .int .u8 b1, .int .u8 c1, .int .u8 d1, .int .u16 q1])]) rfl rfl (by kernel_rfl) (by kernel_rfl) (by kernel_rfl) tt_ok (sumOfM_ok trivial trivial) (by kernel_rfl) ?_
  intro L P' Q' hL hP hQ
  (cbv; try simp only [sat_need, sat_must, sat_ite, sat_done, sat_yes, sat_ex, sat_all, sat_sup, sat_and, sat_fail, true_and, and_true])
  (subst hL; subst hQ; simp only [L2, L3, std] at *; try simp only [sySet, reduceCtorEq, forall_const, Int.reduceToNat, Int.reduceAdd, Int.reduceSub, Int.cast_ofNat_Int, Int.toNat_natCast, Nat.le_eq, Nat.sub_eq, ne_eq, Decidable.not_not, implies_true, true_and, and_true, wadd, wsub, wmul, decide_eq_true_eq, decide_eq_false_iff_not, Nat.succ_eq_add_one, imp_false, not_false_eq_true, not_true_eq_false, false_imp_iff, true_imp_iff] at *)
  exact eqP_ieq a b c d q a1 b1 c1 d1 q1
/-! ### IndexFunc -/
def idxP (p : Pl) (l : List Pl) : Int := idxW (eqP p) l
def noneP (p : Pl) (l : List Pl) (i : Nat) : Prop := noneW (eqP p) l i
def plO (L : Seal) (p : Pl) : Nat × Ob := (500001, .box 36 [.int .u8 (L Pl.a p), .int .u8 (L Pl.b p), .int .u8 (L Pl.c p), .int .u8 (L Pl.d p), .int .u16 (L Pl.p p)])
def rowO (L : Seal) (n : Nat) (l : List Pl) : Nat × Ob := (500000, .row 36 5 n (fun i => plC L (L (L nthPl l) i)))
def dargs (n : Nat) : List AV := [.sl 500000 5 0 n, .fn 98 [] [.ref 500001 0]]
def idxM (L : Seal) : EntM := (157, fun raw ob => match raw with
  | [.sl a 5 0 n, .fn g [] [.ref k 0]] => match nbeq g 98, ob a, ob k with
    | true, some (.row _ _ m get), some (.box _ [.int .u8 a1, .int .u8 b1, .int .u8 c1, .int .u8 d1, .int .u16 q1]) => some ⟨[.sl 500000 5 0 n, .fn 98 [] [.ref 500001 0]], [(500000, .row 36 5 n get), (500001, .box 36 [.int .u8 a1, .int .u8 b1, .int .u8 c1, .int .u8 d1, .int .u16 q1])], L okWPl (.lst 5 n get) ∧ L upN n, .int .i64 (L2 L idxP (mkPl L a1 b1 c1 d1 q1) (L rdWPl (.lst 5 n get))), [(500000, .row 36 5 n (fun i => plC L (L (L nthPl (L rdWPl (.lst 5 n get))) i))), (500001, .box 36 [.int .u8 a1, .int .u8 b1, .int .u8 c1, .int .u8 d1, .int .u16 q1])]⟩
    | _, _, _ => none
  | _ => none)
def ixpA (L : Seal) (p : Pl) (l : List Pl) : Nat → St → Option Ann := fun id st => match id with
  | 0 => some ⟨Nat, fun i => [(8, .int .i64 (L natI i))], fun i => [], [0, 1, 7], [500000, 500001], fun i => L (L (L noneP p) l) i, fun i => L2 L toN l i⟩
  | _ => none
theorem idxrun {p : Pl} {l : List Pl} {n : Nat} (hz : n ≤ 1000000) (hlw : n = l.length) : MCalls Tryz.prog 157 (dargs n) [rowO std n l, plO std p] (.int .i64 (idxP p l)) [rowO std n l, plO std p] := by
  refine mcalls_L (T := tt) (S := fun L => sumOfM [] [takeP_m L]) (lo := fun L => ixpA L p l) (lb := noA) 5 (fn := Tryz.f157) (xs := fun L => dargs n) (rts := fun L => [.int .i64 (L2 L idxP p l)]) (O := fun L => [rowO L n l, plO L p]) (O1 := fun L => [rowO L n l, plO L p]) rfl rfl (by kernel_rfl) (by kernel_rfl) (by kernel_rfl) tt_ok (sumOfM_ok trivial ⟨takeP_good, trivial⟩) (by kernel_rfl) ?_
  intro L P' Q' hL hP hQ
  have hE2 : ∀ y : Pl, mkPl L (L Pl.a y) (L Pl.b y) (L Pl.c y) (L Pl.d y) (L Pl.p y) = y := by subst hL; intro y; rfl
  have hE : ∀ y : Pl, L (L (L (L (L Pl.mk (L Pl.a y)) (L Pl.b y)) (L Pl.c y)) (L Pl.d y)) (L Pl.p y) = y := by subst hL; intro y; rfl
  (cbv; try simp only [sat_need, sat_must, sat_ite, sat_done, sat_yes, sat_ex, sat_all, sat_sup, sat_and, sat_fail, true_and, and_true])
  refine ⟨⟨0, ?_⟩, fun i hi => ?_⟩
  · (cbv; try simp only [sat_need, sat_must, sat_ite, sat_done, sat_yes, sat_ex, sat_all, sat_sup, sat_and, sat_fail, true_and, and_true])
    (subst hL; subst hQ; simp only [L2, L3, std] at *; try simp only [sySet, reduceCtorEq, forall_const, Int.reduceToNat, Int.reduceAdd, Int.reduceSub, Int.cast_ofNat_Int, Int.toNat_natCast, Nat.le_eq, Nat.sub_eq, ne_eq, Decidable.not_not, implies_true, true_and, and_true, wadd, wsub, wmul, decide_eq_true_eq, decide_eq_false_iff_not, Nat.succ_eq_add_one, imp_false, not_false_eq_true, not_true_eq_false, false_imp_iff, true_imp_iff] at *)
    exact noneW_0 _ _
  · have hi2 : noneP p l i := by
      have h := hi
      rw [hL] at h
      exact h
    clear hi
    (cbv; try simp only [sat_need, sat_must, sat_ite, sat_done, sat_yes, sat_ex, sat_all, sat_sup, sat_and, sat_fail, true_and, and_true])
    simp only [hE, hE2]
    refine ⟨fun hlt => ⟨?_, fun hb => ?_, fun hb => ⟨i + 1, ?_⟩⟩, fun hge => ?_⟩
    · (subst hL; subst hQ; simp only [L2, L3, std] at *; try simp only [sySet, reduceCtorEq, forall_const, Int.reduceToNat, Int.reduceAdd, Int.reduceSub, Int.cast_ofNat_Int, Int.toNat_natCast, Nat.le_eq, Nat.sub_eq, ne_eq, Decidable.not_not, implies_true, true_and, and_true, wadd, wsub, wmul, decide_eq_true_eq, decide_eq_false_iff_not, Nat.succ_eq_add_one, imp_false, not_false_eq_true, not_true_eq_false, false_imp_iff, true_imp_iff] at *)
      omega
    · (subst hL; subst hQ; simp only [L2, L3, std] at *; try simp only [sySet, reduceCtorEq, forall_const, Int.reduceToNat, Int.reduceAdd, Int.reduceSub, Int.cast_ofNat_Int, Int.toNat_natCast, Nat.le_eq, Nat.sub_eq, ne_eq, Decidable.not_not, implies_true, true_and, and_true, wadd, wsub, wmul, decide_eq_true_eq, decide_eq_false_iff_not, Nat.succ_eq_add_one, imp_false, not_false_eq_true, not_true_eq_false, false_imp_iff, true_imp_iff] at *)
      exact (noneW_yes (V := plV) hi2 (by omega) hb).symm
    · (cbv; try simp only [sat_need, sat_must, sat_ite, sat_done, sat_yes, sat_ex, sat_all, sat_sup, sat_and, sat_fail, true_and, and_true])
      try simp only [hE, hE2]
      (subst hL; subst hQ; simp only [L2, L3, std] at *; try simp only [sySet, reduceCtorEq, forall_const, Int.reduceToNat, Int.reduceAdd, Int.reduceSub, Int.cast_ofNat_Int, Int.toNat_natCast, Nat.le_eq, Nat.sub_eq, ne_eq, Decidable.not_not, implies_true, true_and, and_true, wadd, wsub, wmul, decide_eq_true_eq, decide_eq_false_iff_not, Nat.succ_eq_add_one, imp_false, not_false_eq_true, not_true_eq_false, false_imp_iff, true_imp_iff] at *)
      exact ⟨by omega, noneW_step (V := plV) hi2 (by omega) hb, by show l.length - (i + 1) + 1 ≤ l.length - i; omega⟩
    · (subst hL; subst hQ; simp only [L2, L3, std] at *; try simp only [sySet, reduceCtorEq, forall_const, Int.reduceToNat, Int.reduceAdd, Int.reduceSub, Int.cast_ofNat_Int, Int.toNat_natCast, Nat.le_eq, Nat.sub_eq, ne_eq, Decidable.not_not, implies_true, true_and, and_true, wadd, wsub, wmul, decide_eq_true_eq, decide_eq_false_iff_not, Nat.succ_eq_add_one, imp_false, not_false_eq_true, not_true_eq_false, false_imp_iff, true_imp_iff] at *)
      exact (noneW_end hi2 (by omega)).symm
theorem idxM_good : GoodM Tryz.prog (idxM std) := by
  intro raw ob T h hp
  unfold idxM at h
  simp only at h
  split at h
  rotate_left
  · cases h
  rename_i a n g k
  split at h
  rotate_left
  · cases h
  rename_i t m get t1 a1 b1 c1 d1 q1 hg _ _
  obtain rfl : g = 98 := of_decide_eq_true hg
  cases h
  obtain ⟨ho, hn⟩ := hp
  have ho : okWPl (.lst 5 n get) := ho
  have hn : n ≤ 1000000 := hn
  have hl : (rdWPl (.lst 5 n get)).length = n := rdW_len _ _ _ _
  refine mc_row plV_ok ho ?_
  exact idxrun (p := ⟨a1, b1, c1, d1, q1⟩) (l := rdWPl (.lst 5 n get)) hn hl.symm
/-! ### DeleteFunc -/
/-- What is kept of the first; the row behind i rounds; the row at the end. -/
def keepP (p : Pl) (l : List Pl) (i : Nat) : List Pl := dropP (l.take i) p
def kN (p : Pl) (l : List Pl) (i : Nat) : Nat := (keepP p l i).length
def dG (p : Pl) (l : List Pl) (i : Nat) : List Pl := keepP p l i ++ l.drop (kN p l i)
def dN (p : Pl) (l : List Pl) : Nat := (dropP l p).length
def clrL (p : Pl) (l : List Pl) : List Pl := dropP l p ++ List.replicate (l.length - dN p l) pl0
def dOk (p : Pl) (l : List Pl) (i : Nat) : Prop := i ≤ l.length
theorem nthPl_get (l : List Pl) (q : Nat) : nthPl l q = (l[q]?).getD pl0 := by
  show l.getD q pl0 = _
  rw [List.getD_eq_getElem?_getD]
theorem drop_none {p : Pl} {l : List Pl} (h : ∀ x ∈ l, eqP p x = false) : dropP l p = l := by
  unfold dropP
  rw [List.filter_eq_self]
  intro x hx
  have := h x hx
  unfold eqP at this
  simpa using this
theorem idxW_sp {α : Type} (p : α → Bool) : ∀ l : List α, 0 ≤ idxW p l → ∃ (j : Nat) (hj : j < l.length), idxW p l = j ∧ p l[j] = true ∧ ∀ x ∈ l.take j, p x = false
  | [], h => by simp [idxW] at h
  | x :: l, h => by
    by_cases hx : p x = true
    · exact ⟨0, by simp, by simp [idxW, hx], hx, by simp⟩
    · have hx' : p x = false := by simpa using hx
      have hge := idxW_ge p l
      have h0 : 0 ≤ idxW p l := by
        rw [idxW, if_neg hx] at h
        split at h <;> omega
      obtain ⟨j, hj, e1, e2, e3⟩ := idxW_sp p l h0
      refine ⟨j + 1, by simpa using hj, ?_, by simpa using e2, ?_⟩
      · rw [idxW, if_neg hx, if_neg (by omega), e1]; rfl
      · intro y hy
        rw [List.take_succ_cons, List.mem_cons] at hy
        rcases hy with rfl | hy
        · exact hx'
        · exact e3 y hy
theorem idx_none {p : Pl} {l : List Pl} (h : idxP p l = -1) : dropP l p = l := by
  have h1 := idxW_any (eqP p) l
  have h2 : l.any (eqP p) = false := by
    rw [← h1, decide_eq_false]
    have h : idxW (eqP p) l = -1 := h
    omega
  refine drop_none fun x hx => ?_
  rw [List.any_eq_false] at h2
  simpa using h2 x hx
theorem keep_step {p : Pl} {l : List Pl} {i : Nat} (hi : i < l.length) : keepP p l (i + 1) = if eqP p (nthPl l i) = true then keepP p l i else keepP p l i ++ [nthPl l i] := by
  unfold keepP dropP
  rw [List.take_succ_eq_append_getElem hi, List.filter_append, nthPl_at hi]
  by_cases h : l[i] = p
  · rw [if_pos (by simp [eqP, h])]; simp [h]
  · rw [if_neg (by simp [eqP, h])]; simp [h]
theorem idx_some {p : Pl} {l : List Pl} (h : ¬ idxP p l = -1) : ∃ j : Nat, idxP p l = j ∧ j < l.length ∧ keepP p l (j + 1) = l.take j := by
  have h0 := (idxW_ge (eqP p) l).1
  obtain ⟨j, hj, e1, e2, e3⟩ := idxW_sp (eqP p) l (by have h : ¬ idxW (eqP p) l = -1 := h; omega)
  refine ⟨j, e1, hj, ?_⟩
  rw [keep_step hj, nthPl_at hj, if_pos e2]
  exact drop_none e3
theorem kN_le {p : Pl} {l : List Pl} (i : Nat) : kN p l i ≤ i := by
  have h1 : kN p l i ≤ (l.take i).length := List.length_filter_le _ _
  rw [List.length_take] at h1
  omega
theorem dG_nth {p : Pl} {l : List Pl} (i q : Nat) : nthPl (dG p l i) q = if q < kN p l i then nthPl (keepP p l i) q else nthPl l q := by
  rw [nthPl_get, nthPl_get, nthPl_get, dG]
  split
  · rename_i h
    rw [List.getElem?_append_left h]
  · rename_i h
    have h : (keepP p l i).length ≤ q := by
      have : ¬ q < (keepP p l i).length := h
      omega
    rw [List.getElem?_append_right h, List.getElem?_drop]
    unfold kN
    rw [show (keepP p l i).length + (q - (keepP p l i).length) = q by omega]
theorem dG_at {p : Pl} {l : List Pl} (i : Nat) : nthPl (dG p l i) i = nthPl l i := by
  have := kN_le (p := p) (l := l) i
  rw [dG_nth, if_neg (by omega)]
theorem dG_first {p : Pl} {l : List Pl} {j : Nat} (hj : j < l.length) (h : keepP p l (j + 1) = l.take j) : kN p l (j + 1) = j ∧ dG p l (j + 1) = l := by
  have hk : kN p l (j + 1) = j := by
    rw [kN, h, List.length_take]; omega
  refine ⟨hk, ?_⟩
  rw [dG, h, hk, List.take_append_drop]
theorem dG_skip {p : Pl} {l : List Pl} {i : Nat} (hi : i < l.length) (h : eqP p (nthPl l i) = true) : kN p l (i + 1) = kN p l i ∧ dG p l (i + 1) = dG p l i := by
  have e : keepP p l (i + 1) = keepP p l i := by rw [keep_step hi, if_pos h]
  have e2 : kN p l (i + 1) = kN p l i := by rw [kN, e]; rfl
  exact ⟨e2, by rw [dG, e, e2]; rfl⟩
theorem dG_keep {p : Pl} {l : List Pl} {i : Nat} (hi : i < l.length) (h : eqP p (nthPl l i) = false) : kN p l (i + 1) = kN p l i + 1 ∧ ∀ q, nthPl (dG p l (i + 1)) q = if q = kN p l i then nthPl l i else nthPl (dG p l i) q := by
  have e : keepP p l (i + 1) = keepP p l i ++ [nthPl l i] := by rw [keep_step hi, if_neg (by rw [h]; decide)]
  have e2 : kN p l (i + 1) = kN p l i + 1 := by rw [kN, e, List.length_append]; rfl
  refine ⟨e2, fun q => ?_⟩
  rw [dG_nth, dG_nth, e2, e, nthPl_get (keepP p l i ++ [nthPl l i])]
  by_cases h1 : q < kN p l i
  · rw [if_pos (by omega), if_neg (by omega), if_pos h1, List.getElem?_append_left h1, nthPl_get]
  · by_cases h2 : q = kN p l i
    · rw [if_pos (by omega), if_pos h2, List.getElem?_append_right (by unfold kN at h2; omega), show q - (keepP p l i).length = 0 by unfold kN at h2; omega]
      rfl
    · rw [if_neg (by omega), if_neg h2, if_neg h1]
theorem dG_end {p : Pl} {l : List Pl} {i : Nat} (hi : i = l.length) : kN p l i = dN p l ∧ ∀ q, nthPl (clrL p l) q = if q < dN p l then nthPl (dG p l i) q else pl0 := by
  subst hi
  have e : keepP p l l.length = dropP l p := by rw [keepP, List.take_length]
  have e2 : kN p l l.length = dN p l := by rw [kN, e]; rfl
  refine ⟨e2, fun q => ?_⟩
  rw [dG_nth, e2, e, nthPl_get, clrL]
  split
  · rename_i h
    rw [List.getElem?_append_left h, nthPl_get]
  · rename_i h
    have h' : (dropP l p).length ≤ q := by
      have : ¬ q < (dropP l p).length := h
      omega
    rw [List.getElem?_append_right h', List.getElem?_replicate]
    split <;> rfl
theorem clr_none {p : Pl} {l : List Pl} (h : idxP p l = -1) : clrL p l = l ∧ dN p l = l.length := by
  have e := idx_none h
  have e2 : dN p l = l.length := by rw [dN, e]
  refine ⟨?_, e2⟩
  rw [clrL, e2, e, Nat.sub_self]
  simp
def delM (L : Seal) : EntM := (96, fun raw ob => match raw with
  | [.sl a 5 0 n, .fn g [] [.ref k 0]] => match nbeq g 98, ob a, ob k with
    | true, some (.row _ _ m get), some (.box _ [.int .u8 a1, .int .u8 b1, .int .u8 c1, .int .u8 d1, .int .u16 q1]) => some ⟨[.sl 500000 5 0 n, .fn 98 [] [.ref 500001 0]], [(500000, .row 36 5 n get), (500001, .box 36 [.int .u8 a1, .int .u8 b1, .int .u8 c1, .int .u8 d1, .int .u16 q1])], L okWPl (.lst 5 n get) ∧ L upN n, .sl 500000 5 0 (L2 L dN (mkPl L a1 b1 c1 d1 q1) (L rdWPl (.lst 5 n get))), [(500000, .row 36 5 n (fun i => plC L (L (L nthPl (L (L clrL (mkPl L a1 b1 c1 d1 q1)) (L rdWPl (.lst 5 n get)))) i))), (500001, .box 36 [.int .u8 a1, .int .u8 b1, .int .u8 c1, .int .u8 d1, .int .u16 q1])]⟩
    | _, _, _ => none
  | _ => none)
def delA (L : Seal) (p : Pl) (l : List Pl) (n : Nat) : Nat → St → Option Ann := fun id st => match id with
  | 0 => some ⟨Nat, fun i => [(6, .int .i64 (L natI i)), (5, .int .i64 (L natI (L (L (L kN p) l) i)))], fun i => [(500000, .row 36 5 n (fun q => plC L (L (L nthPl (L (L (L dG p) l) i)) q)))], [0, 1], [500001], fun i => L (L (L dOk p) l) i, fun i => L2 L toN l i⟩
  | _ => none
theorem wrap1 {z : Int} {j : Nat} (h : z = (j : Int)) (hj : j ≤ 1000000) : (z + 1 + 9223372036854775808) % 18446744073709551616 - 9223372036854775808 = ((j + 1 : Nat) : Int) := by omega
theorem overPl (q : Nat) (x : Pl) (f : Nat → Pl) (i j : Nat) (h : j < 5) : over std q 0 5 [.int .u8 x.a, .int .u8 x.b, .int .u8 x.c, .int .u8 x.d, .int .u16 x.p] (fun i => plC std (f i)) i j = plC std (if i = q then x else f i) j := by
  rw [over_get, if_pos (by omega)]
  by_cases e : i = q
  · subst e
    rw [if_pos rfl, beq_same]
    match j, h with
    | 0, _ => rfl
    | 1, _ => rfl
    | 2, _ => rfl
    | 3, _ => rfl
    | 4, _ => rfl
  · rw [if_neg e, beq_no e]
    match j, h with
    | 0, _ => rfl
    | 1, _ => rfl
    | 2, _ => rfl
    | 3, _ => rfl
    | 4, _ => rfl
theorem selPl (k n : Nat) (x : Pl) (i j : Nat) (h : j < 5) (hk : k ≤ n) (hi : i < n) : selX (segCp k (n - k) i) (lget AV.dead [.int .u8 0, .int .u8 0, .int .u8 0, .int .u8 0, .int .u16 0] j) (plC std x j) = plC std (if i < k then x else pl0) j := by
  rw [selX_if]
  by_cases e : i < k
  · rw [if_pos e, if_neg (by rw [segCp_t]; omega)]
  · rw [if_neg e, if_pos (by rw [segCp_t]; omega)]
    match j, h with
    | 0, _ => rfl
    | 1, _ => rfl
    | 2, _ => rfl
    | 3, _ => rfl
    | 4, _ => rfl
theorem delrun {p : Pl} {l : List Pl} {n : Nat} (hz : n ≤ 1000000) (hlw : n = l.length) : MCalls Tryz.prog 96 (dargs n) [rowO std n l, plO std p] (.sl 500000 5 0 (dN p l)) [rowO std n (clrL p l), plO std p] := by
  refine mcalls_L (T := tt) (S := fun L => sumOfM [] [takeP_m L, idxM L]) (lo := fun L => delA L p l n) (lb := noA) 5 (fn := Tryz.f96) (xs := fun L => dargs n) (rts := fun L => [.sl 500000 5 0 (L2 L dN p l)]) (O := fun L => [rowO L n l, plO L p]) (O1 := fun L => [rowO L n (L2 L clrL p l), plO L p]) rfl rfl (by kernel_rfl) (by kernel_rfl) (by kernel_rfl) tt_ok (sumOfM_ok trivial ⟨takeP_good, idxM_good, trivial⟩) (by kernel_rfl) ?_
  intro L P' Q' hL hP hQ
  have hG : ∀ (y : List Pl), n = lenW y → L rdWPl (.lst 5 n (fun i => plC L (L (L nthPl y) i))) = y := by subst hL; intro y hy; subst hy; exact rdwPl y
  have hO : ∀ (y : List Pl), n = lenW y → L okWPl (.lst 5 n (fun i => plC L (L (L nthPl y) i))) := by subst hL; intro y hy; subst hy; exact okwPl y
  have hE2 : ∀ y : Pl, mkPl L (L Pl.a y) (L Pl.b y) (L Pl.c y) (L Pl.d y) (L Pl.p y) = y := by subst hL; intro y; rfl
  have hE : ∀ y : Pl, L (L (L (L (L Pl.mk (L Pl.a y)) (L Pl.b y)) (L Pl.c y)) (L Pl.d y)) (L Pl.p y) = y := by subst hL; intro y; rfl
  (cbv; try simp only [sat_need, sat_must, sat_ite, sat_done, sat_yes, sat_ex, sat_all, sat_sup, sat_and, sat_fail, true_and, and_true])
  simp only [hG l hlw, hO l hlw, hE, hE2]
  refine ⟨fun _ _ _ _ => trivial, ⟨trivial, ?_⟩, fun h1 => ?_, fun h1 => ?_⟩
  · subst hL; exact hz
  · (subst hL; subst hQ; simp only [L2, L3, std] at *; try simp only [sySet, reduceCtorEq, forall_const, Int.reduceToNat, Int.reduceAdd, Int.reduceSub, Int.cast_ofNat_Int, Int.toNat_natCast, Nat.le_eq, Nat.sub_eq, ne_eq, Decidable.not_not, implies_true, true_and, and_true, wadd, wsub, wmul, decide_eq_true_eq, decide_eq_false_iff_not, Nat.succ_eq_add_one, imp_false, not_false_eq_true, not_true_eq_false, false_imp_iff, true_imp_iff] at *)
    obtain ⟨k1, k2⟩ := clr_none h1
    rw [k1, k2]
    exact ⟨fun _ _ _ _ => rfl, hlw⟩
  · have h1' : ¬ idxP p l = -1 := by
      have h := h1
      rw [hL] at h
      simpa [ieq, std] using h
    clear h1
    obtain ⟨j, hj, hjl, hjk⟩ := idx_some h1'
    obtain ⟨k1, k2⟩ := dG_first hjl hjk
    refine ⟨⟨j + 1, ?_⟩, fun i hi => ?_⟩
    · (cbv; try simp only [sat_need, sat_must, sat_ite, sat_done, sat_yes, sat_ex, sat_all, sat_sup, sat_and, sat_fail, true_and, and_true])
      (subst hL; subst hQ; simp only [L2, L3, std] at *; try simp only [sySet, reduceCtorEq, forall_const, Int.reduceToNat, Int.reduceAdd, Int.reduceSub, Int.cast_ofNat_Int, Int.toNat_natCast, Nat.le_eq, Nat.sub_eq, ne_eq, Decidable.not_not, implies_true, true_and, and_true, wadd, wsub, wmul, decide_eq_true_eq, decide_eq_false_iff_not, Nat.succ_eq_add_one, imp_false, not_false_eq_true, not_true_eq_false, false_imp_iff, true_imp_iff] at *)
      rw [k1, k2]
      exact ⟨fun _ _ _ _ => rfl, hj, wrap1 hj (by omega), by show j + 1 ≤ _; omega⟩
    · have hi2 : i ≤ l.length := by
        have h := hi
        rw [hL] at h
        exact h
      clear hi
      have hkn := kN_le (p := p) (l := l) i
      (cbv; try simp only [sat_need, sat_must, sat_ite, sat_done, sat_yes, sat_ex, sat_all, sat_sup, sat_and, sat_fail, true_and, and_true])
      simp only [hE, hE2]
      refine ⟨fun hlt => ⟨?_, fun hb => ⟨?_, ⟨i + 1, ?_⟩⟩, fun hb => ⟨i + 1, ?_⟩⟩, fun hge => ⟨?_, ?_, ?_, ?_⟩⟩
      · (subst hL; subst hQ; simp only [L2, L3, std] at *; try simp only [sySet, reduceCtorEq, forall_const, Int.reduceToNat, Int.reduceAdd, Int.reduceSub, Int.cast_ofNat_Int, Int.toNat_natCast, Nat.le_eq, Nat.sub_eq, ne_eq, Decidable.not_not, implies_true, true_and, and_true, wadd, wsub, wmul, decide_eq_true_eq, decide_eq_false_iff_not, Nat.succ_eq_add_one, imp_false, not_false_eq_true, not_true_eq_false, false_imp_iff, true_imp_iff] at *)
        omega
      · (subst hL; subst hQ; simp only [L2, L3, std] at *; try simp only [sySet, reduceCtorEq, forall_const, Int.reduceToNat, Int.reduceAdd, Int.reduceSub, Int.cast_ofNat_Int, Int.toNat_natCast, Nat.le_eq, Nat.sub_eq, ne_eq, Decidable.not_not, implies_true, true_and, and_true, wadd, wsub, wmul, decide_eq_true_eq, decide_eq_false_iff_not, Nat.succ_eq_add_one, imp_false, not_false_eq_true, not_true_eq_false, false_imp_iff, true_imp_iff] at *)
        omega
      · (cbv; try simp only [sat_need, sat_must, sat_ite, sat_done, sat_yes, sat_ex, sat_all, sat_sup, sat_and, sat_fail, true_and, and_true])
        try simp only [hE, hE2]
        (subst hL; subst hQ; simp only [L2, L3, std] at *; try simp only [sySet, reduceCtorEq, forall_const, Int.reduceToNat, Int.reduceAdd, Int.reduceSub, Int.cast_ofNat_Int, Int.toNat_natCast, Nat.le_eq, Nat.sub_eq, ne_eq, Decidable.not_not, implies_true, true_and, and_true, wadd, wsub, wmul, decide_eq_true_eq, decide_eq_false_iff_not, Nat.succ_eq_add_one, imp_false, not_false_eq_true, not_true_eq_false, false_imp_iff, true_imp_iff] at *)
        have hl : i < l.length := by omega
        have hb2 : eqP p (nthPl l i) = false := by rw [← dG_at (p := p)]; exact hb
        obtain ⟨m1, m2⟩ := dG_keep hl hb2
        refine ⟨fun q j hq hj => ?_, ?_, wrap1 rfl (by omega), by show i + 1 ≤ _; omega, by show l.length - (i + 1) + 1 ≤ l.length - i; omega⟩
        · rw [overPl _ _ _ _ _ hj, m2, dG_at]
        · rw [m1]
          exact wrap1 rfl (by omega)
      · (cbv; try simp only [sat_need, sat_must, sat_ite, sat_done, sat_yes, sat_ex, sat_all, sat_sup, sat_and, sat_fail, true_and, and_true])
        try simp only [hE, hE2]
        (subst hL; subst hQ; simp only [L2, L3, std] at *; try simp only [sySet, reduceCtorEq, forall_const, Int.reduceToNat, Int.reduceAdd, Int.reduceSub, Int.cast_ofNat_Int, Int.toNat_natCast, Nat.le_eq, Nat.sub_eq, ne_eq, Decidable.not_not, implies_true, true_and, and_true, wadd, wsub, wmul, decide_eq_true_eq, decide_eq_false_iff_not, Nat.succ_eq_add_one, imp_false, not_false_eq_true, not_true_eq_false, false_imp_iff, true_imp_iff] at *)
        have hl : i < l.length := by omega
        have hb2 : eqP p (nthPl l i) = true := by rw [← dG_at (p := p)]; exact hb
        obtain ⟨m1, m2⟩ := dG_skip hl hb2
        rw [m1, m2]
        exact ⟨fun _ _ _ _ => rfl, rfl, wrap1 rfl (by omega), by show i + 1 ≤ _; omega, by show l.length - (i + 1) + 1 ≤ l.length - i; omega⟩
      · (subst hL; subst hQ; simp only [L2, L3, std] at *; try simp only [sySet, reduceCtorEq, forall_const, Int.reduceToNat, Int.reduceAdd, Int.reduceSub, Int.cast_ofNat_Int, Int.toNat_natCast, Nat.le_eq, Nat.sub_eq, ne_eq, Decidable.not_not, implies_true, true_and, and_true, wadd, wsub, wmul, decide_eq_true_eq, decide_eq_false_iff_not, Nat.succ_eq_add_one, imp_false, not_false_eq_true, not_true_eq_false, false_imp_iff, true_imp_iff] at *)
        omega
      · (subst hL; subst hQ; simp only [L2, L3, std] at *; try simp only [sySet, reduceCtorEq, forall_const, Int.reduceToNat, Int.reduceAdd, Int.reduceSub, Int.cast_ofNat_Int, Int.toNat_natCast, Nat.le_eq, Nat.sub_eq, ne_eq, Decidable.not_not, implies_true, true_and, and_true, wadd, wsub, wmul, decide_eq_true_eq, decide_eq_false_iff_not, Nat.succ_eq_add_one, imp_false, not_false_eq_true, not_true_eq_false, false_imp_iff, true_imp_iff] at *)
        omega
      · (subst hL; subst hQ; simp only [L2, L3, std] at *; try simp only [sySet, reduceCtorEq, forall_const, Int.reduceToNat, Int.reduceAdd, Int.reduceSub, Int.cast_ofNat_Int, Int.toNat_natCast, Nat.le_eq, Nat.sub_eq, ne_eq, Decidable.not_not, implies_true, true_and, and_true, wadd, wsub, wmul, decide_eq_true_eq, decide_eq_false_iff_not, Nat.succ_eq_add_one, imp_false, not_false_eq_true, not_true_eq_false, false_imp_iff, true_imp_iff] at *)
        obtain ⟨m1, m2⟩ := dG_end (p := p) (l := l) (i := i) (by omega)
        intro q j hq hj
        rw [selPl _ _ _ _ _ hj (by omega) hq, m2, m1]
      · (subst hL; subst hQ; simp only [L2, L3, std] at *; try simp only [sySet, reduceCtorEq, forall_const, Int.reduceToNat, Int.reduceAdd, Int.reduceSub, Int.cast_ofNat_Int, Int.toNat_natCast, Nat.le_eq, Nat.sub_eq, ne_eq, Decidable.not_not, implies_true, true_and, and_true, wadd, wsub, wmul, decide_eq_true_eq, decide_eq_false_iff_not, Nat.succ_eq_add_one, imp_false, not_false_eq_true, not_true_eq_false, false_imp_iff, true_imp_iff] at *)
        exact (dG_end (by omega)).1
theorem delM_good : GoodM Tryz.prog (delM std) := by
  intro raw ob T h hp
  unfold delM at h
  simp only at h
  split at h
  rotate_left
  · cases h
  rename_i a n g k
  split at h
  rotate_left
  · cases h
  rename_i t m get t1 a1 b1 c1 d1 q1 hg _ _
  obtain rfl : g = 98 := of_decide_eq_true hg
  cases h
  obtain ⟨ho, hn⟩ := hp
  have ho : okWPl (.lst 5 n get) := ho
  have hn : n ≤ 1000000 := hn
  have hl : (rdWPl (.lst 5 n get)).length = n := rdW_len _ _ _ _
  refine mc_row plV_ok ho ?_
  exact delrun (p := ⟨a1, b1, c1, d1, q1⟩) (l := rdWPl (.lst 5 n get)) hn hl.symm
/-! ### The Giver's Take -/
def gtQ (g : Gv) (s : List UInt8) : Pl := rdQ s 17 g.e
def gtE (g : Gv) (s : List UInt8) : Int := rdE s 17 g.e
def gtG (g : Gv) (s : List UInt8) : Gv := if gtE g s = 0 then ⟨g.e, dropP g.l (gtQ g s)⟩ else g
def gtake_s (L : Seal) : Ent1 := (37, fun xs => match xs with
  | [x, .str s] => some (L okGGv x ∧ L gvOk (L rdGGv x) ∧ L2 L upto 900000 s, .tup [gvA L (L2 L gtG (L rdGGv x) s), .int .i64 (L2 L gtE (L rdGGv x) s)])
  | _ => none)
theorem gtake_good : Good Tryz.prog (gtake_s std) := by
  intro xs p r h hp
  dsimp only [gtake_s] at h ⊢
  split at h <;> cases h
  try simp only [L2, L3, std] at hp ⊢
  rename_i x s
  obtain ⟨ho, hg, hs⟩ := hp
  refine ac_g gvV_ok ho ?_
  have hg : gvOk (rdGGv x) := hg
  have hs : s.length ≤ 900000 := hs
  show ACalls _ _ (gvA std (rdGGv x) :: _) (.tup [gvA std (gtG (rdGGv x) s), .int .i64 (gtE (rdGGv x) s)])
  generalize rdGGv x = g at hg ⊢
  obtain ⟨he, hok, hz⟩ := hg
  refine acalls_L' (T := tt) (S := fun L => sumOfM [hrd_s L] [cloneM 97 36 5 L, delM L]) (lo := fun L => noA L) (lb := noA) 5 (fn := Tryz.f37) (xs := fun L => [gvA L g, .str s]) rfl rfl (by kernel_rfl) (by kernel_rfl) rfl tt_ok (sumOfM_ok ⟨hrd_good, trivial⟩ ⟨clonePl_good, delM_good, trivial⟩) (by kernel_rfl) ?_
  intro L P' Q' hL hP hQ
  have hG : ∀ y : List Pl, L rdWPl (.lst 5 (L lenW y) (fun i => plC L (L (L nthPl y) i))) = y := by subst hL; exact fun y => rdwPl y
  have hO : ∀ y : List Pl, L okWPl (.lst 5 (L lenW y) (fun i => plC L (L (L nthPl y) i))) := by subst hL; exact fun y => okwPl y
  have hE : ∀ y : Pl, L (L (L (L (L Pl.mk (L Pl.a y)) (L Pl.b y)) (L Pl.c y)) (L Pl.d y)) (L Pl.p y) = y := by subst hL; intro y; rfl
  have hE2 : ∀ y : Pl, mkPl L (L Pl.a y) (L Pl.b y) (L Pl.c y) (L Pl.d y) (L Pl.p y) = y := by subst hL; intro y; rfl
  (cbv; try simp only [sat_need, sat_must, sat_ite, sat_done, sat_yes, sat_ex, sat_all, sat_sup, sat_and, sat_fail, true_and, and_true])
  simp only [hG, hE, hE2]
  refine ⟨?_, fun h1 => ?_, fun h1 => ⟨fun _ _ _ _ => trivial, ?_, fun _ _ _ _ => trivial, ⟨hO _, ?_⟩, ?_⟩⟩
  · (subst hL; subst hQ; simp only [L2, L3, std] at *; try simp only [sySet, reduceCtorEq, forall_const, Int.reduceToNat, Int.reduceAdd, Int.reduceSub, Int.cast_ofNat_Int, Int.toNat_natCast, Nat.le_eq, Nat.sub_eq, ne_eq, Decidable.not_not, implies_true, true_and, and_true, wadd, wsub, wmul, decide_eq_true_eq, decide_eq_false_iff_not, Nat.succ_eq_add_one, imp_false, not_false_eq_true, not_true_eq_false, false_imp_iff, true_imp_iff] at *)
    exact hs
  · (subst hL; subst hQ; simp only [L2, L3, std] at *; try simp only [sySet, reduceCtorEq, forall_const, Int.reduceToNat, Int.reduceAdd, Int.reduceSub, Int.cast_ofNat_Int, Int.toNat_natCast, Nat.le_eq, Nat.sub_eq, ne_eq, Decidable.not_not, implies_true, true_and, and_true, wadd, wsub, wmul, decide_eq_true_eq, decide_eq_false_iff_not, Nat.succ_eq_add_one, imp_false, not_false_eq_true, not_true_eq_false, false_imp_iff, true_imp_iff] at *)
    have e : gtG g s = g := if_neg h1
    exact ⟨gv_fit e.symm, rfl⟩
  · subst hL; exact hz
  · subst hL; exact hz
  · (subst hL; subst hQ; simp only [L2, L3, std] at *; try simp only [sySet, reduceCtorEq, forall_const, Int.reduceToNat, Int.reduceAdd, Int.reduceSub, Int.cast_ofNat_Int, Int.toNat_natCast, Nat.le_eq, Nat.sub_eq, ne_eq, Decidable.not_not, implies_true, true_and, and_true, wadd, wsub, wmul, decide_eq_true_eq, decide_eq_false_iff_not, Nat.succ_eq_add_one, imp_false, not_false_eq_true, not_true_eq_false, false_imp_iff, true_imp_iff] at *)
    have e : gtG g s = ⟨g.e, dropP g.l (rdQ s 17 g.e)⟩ := if_pos h1
    rw [e]
    refine ⟨?_, h1.symm⟩
    show fits1 (.agg [.int .u64 g.e, .lst 5 (lenW (dropP g.l (rdQ s 17 g.e))) (fun i => plC std (nthPl (dropP g.l (rdQ s 17 g.e)) i))]) _
    rw [fits1_aggi, fits1_aggl, fits1_agg0]
    refine ⟨rfl, ⟨rfl, fun i j hi hj => ?_⟩, trivial⟩
    have hi : i < (dropP g.l (rdQ s 17 g.e)).length := hi
    rw [nthPl_get, nthPl_get (dropP g.l (rdQ s 17 g.e)), clrL, List.getElem?_append_left hi]
end Sy
end Go.Proofs.YtckbbcjbbmgmoaaGreatDoor
namespace Go.Proofs.YtckbbcjbbmgmoaaGreatDoor
namespace Sy
open Go Go.RowKit
set_option maxRecDepth 100000
set_option linter.unusedSimpArgs false
set_option linter.unusedVariables false
theorem has_any (p : Pl) (l : List Pl) : hasP l p = l.any (eqP p) := by
  rw [Bool.eq_iff_iff]
  simp [hasP, eqP, List.any_eq_true]
theorem none_end {p : Pl} {l : List Pl} {i : Nat} (h : noneP p l i) (hi : l.length ≤ i) : false = hasP l p := by
  have h2 := h.2
  rw [List.take_of_length_le hi] at h2
  rw [has_any, eq_comm, List.any_eq_false]
  intro x hx
  rw [h2 x hx]; decide
theorem none_yes {p : Pl} {l : List Pl} {i : Nat} (hi : i < l.length) (h : eqP p (nthPl l i) = true) : true = hasP l p := by
  rw [has_any, eq_comm, List.any_eq_true]
  rw [nthPl_at hi] at h
  exact ⟨_, List.getElem_mem _, h⟩
/-! ### Has -/
def has_s (L : Seal) : Ent1 := (93, fun xs => match xs with
  | [x, .agg [.int .u8 a, .int .u8 b, .int .u8 c, .int .u8 d, .int .u16 q]] => some (L okWPl x ∧ L lenE (L rdWPl x), .bool (L2 L hasP (L rdWPl x) (mkPl L a b c d q)))
  | _ => none)
def hasA (L : Seal) (p : Pl) (l : List Pl) : Nat → St → Option Ann := fun id st => match id with
  | 0 => some ⟨Nat, fun i => [(9, .int .i64 (L natI i))], fun i => [], [3, 7, 8], [3], fun i => L (L (L noneP p) l) i, fun i => L2 L toN l i⟩
  | _ => none
theorem has_good : Good Tryz.prog (has_s std) := by
  intro xs p r h hp
  dsimp only [has_s] at h ⊢
  split at h <;> cases h
  try simp only [L2, L3, std] at hp ⊢
  rename_i x a b c d q
  obtain ⟨ho, hz⟩ := hp
  refine ac_w1 plV_ok ho ?_
  have hz : lenE (rdWPl x) := hz
  show ACalls _ _ (lstW std plV (rdWPl x) :: _) (.bool (hasP (rdWPl x) ⟨a, b, c, d, q⟩))
  generalize rdWPl x = l at hz ⊢
  obtain ⟨p, hpp⟩ : ∃ p : Pl, p = ⟨a, b, c, d, q⟩ := ⟨_, rfl⟩
  rw [← hpp]
  refine acalls_L' (T := tt) (S := fun L => sumOf []) (lo := fun L => hasA L p l) (lb := noA) 5 (fn := Tryz.f93) (xs := fun L => [lstPl L l, .agg [.int .u8 a, .int .u8 b, .int .u8 c, .int .u8 d, .int .u16 q]]) rfl rfl (by kernel_rfl) (by kernel_rfl) rfl tt_ok (sumOf_ok trivial) (by kernel_rfl) ?_
  intro L P' Q' hL hP hQ
  have hlw : lenW l = l.length := rfl
  have hz : l.length ≤ 1000000 := hz
  (cbv; try simp only [sat_need, sat_must, sat_ite, sat_done, sat_yes, sat_ex, sat_all, sat_sup, sat_and, sat_fail, true_and, and_true])
  refine ⟨⟨0, ?_⟩, fun i hi => ?_⟩
  · (cbv; try simp only [sat_need, sat_must, sat_ite, sat_done, sat_yes, sat_ex, sat_all, sat_sup, sat_and, sat_fail, true_and, and_true])
    (subst hL; subst hQ; simp only [L2, L3, std] at *; try simp only [sySet, reduceCtorEq, forall_const, Int.reduceToNat, Int.reduceAdd, Int.reduceSub, Int.cast_ofNat_Int, Int.toNat_natCast, Nat.le_eq, Nat.sub_eq, ne_eq, Decidable.not_not, implies_true, true_and, and_true, wadd, wsub, wmul, decide_eq_true_eq, decide_eq_false_iff_not, Nat.succ_eq_add_one, imp_false, not_false_eq_true, not_true_eq_false, false_imp_iff, true_imp_iff] at *)
    exact noneW_0 _ _
  · have hi2 : noneP p l i := by
      have h := hi
      rw [hL] at h
      exact h
    clear hi
    (cbv; try simp only [sat_need, sat_must, sat_ite, sat_done, sat_yes, sat_ex, sat_all, sat_sup, sat_and, sat_fail, true_and, and_true])
    refine ⟨fun hlt => ⟨?_, fun hb => ?_, fun hb => ⟨i + 1, ?_⟩⟩, fun hge => ?_⟩
    · (subst hL; subst hQ; simp only [L2, L3, std] at *; try simp only [sySet, reduceCtorEq, forall_const, Int.reduceToNat, Int.reduceAdd, Int.reduceSub, Int.cast_ofNat_Int, Int.toNat_natCast, Nat.le_eq, Nat.sub_eq, ne_eq, Decidable.not_not, implies_true, true_and, and_true, wadd, wsub, wmul, decide_eq_true_eq, decide_eq_false_iff_not, Nat.succ_eq_add_one, imp_false, not_false_eq_true, not_true_eq_false, false_imp_iff, true_imp_iff] at *)
      omega
    · subst hQ; subst hL
      have hb2 : eqP p (nthPl l i) = true := by
        rw [hpp]
        exact (eqP_ieq _ _ _ _ _ a b c d q).symm.trans hb
      have hlt : ilt (i : Int) (l.length : Int) = true := hlt
      rw [ilt_t] at hlt
      exact (fits_bool _ _).mpr (none_yes (by omega) hb2)
    · have hb2 : eqP p (nthPl l i) = false := by
        subst hL
        rw [hpp]
        exact (eqP_ieq _ _ _ _ _ a b c d q).symm.trans hb
      clear hb
      (cbv; try simp only [sat_need, sat_must, sat_ite, sat_done, sat_yes, sat_ex, sat_all, sat_sup, sat_and, sat_fail, true_and, and_true])
      (subst hL; subst hQ; simp only [L2, L3, std] at *; try simp only [sySet, reduceCtorEq, forall_const, Int.reduceToNat, Int.reduceAdd, Int.reduceSub, Int.cast_ofNat_Int, Int.toNat_natCast, Nat.le_eq, Nat.sub_eq, ne_eq, Decidable.not_not, implies_true, true_and, and_true, wadd, wsub, wmul, decide_eq_true_eq, decide_eq_false_iff_not, Nat.succ_eq_add_one, imp_false, not_false_eq_true, not_true_eq_false, false_imp_iff, true_imp_iff] at *)
      exact ⟨by omega, noneW_step (V := plV) hi2 (by omega) hb2, by show l.length - (i + 1) + 1 ≤ l.length - i; omega⟩
    · (subst hL; subst hQ; simp only [L2, L3, std] at *; try simp only [sySet, reduceCtorEq, forall_const, Int.reduceToNat, Int.reduceAdd, Int.reduceSub, Int.cast_ofNat_Int, Int.toNat_natCast, Nat.le_eq, Nat.sub_eq, ne_eq, Decidable.not_not, implies_true, true_and, and_true, wadd, wsub, wmul, decide_eq_true_eq, decide_eq_false_iff_not, Nat.succ_eq_add_one, imp_false, not_false_eq_true, not_true_eq_false, false_imp_iff, true_imp_iff] at *)
      exact none_end hi2 (by omega)
/-! ### Put -/
def dnP (p : Pl) (l : List Pl) (i : Nat) : Bool := (l.take i).any fun x => decide (plCmp p x < 0)
def outP (p : Pl) (l : List Pl) (i : Nat) : List Pl := if dnP p l i = true then insP p (l.take i) else l.take i
def outN (p : Pl) (l : List Pl) (i : Nat) : Nat := (outP p l i).length
theorem dnP_is {p : Pl} {l : List Pl} {i : Nat} : dnP p l i = true ↔ ∃ x ∈ l.take i, plCmp p x < 0 := by
  simp [dnP, List.any_eq_true]
theorem insP_no {p : Pl} : ∀ {l : List Pl} {m : List Pl}, (∀ x ∈ l, ¬ plCmp p x < 0) → insP p (l ++ m) = l ++ insP p m
  | [], m, _ => rfl
  | x :: l, m, h => by
    have ih := insP_no (p := p) (l := l) (m := m) (fun y hy => h y (by simp [hy]))
    rw [List.cons_append, insP, if_neg (h x (by simp)), ih, List.cons_append]
theorem insP_yes {p : Pl} : ∀ {l : List Pl} {m : List Pl}, (∃ x ∈ l, plCmp p x < 0) → insP p (l ++ m) = insP p l ++ m
  | [], m, h => by simp at h
  | x :: l, m, h => by
    rw [List.cons_append, insP]
    by_cases hx : plCmp p x < 0
    · rw [if_pos hx, insP, if_pos hx]; rfl
    · have ih := insP_yes (p := p) (l := l) (m := m) (by
        obtain ⟨y, hy, hc⟩ := h
        rcases List.mem_cons.1 hy with rfl | hy
        · exact absurd hc hx
        · exact ⟨y, hy, hc⟩)
      rw [if_neg hx, insP, if_neg hx, ih]; rfl
theorem outP_len {p : Pl} {l : List Pl} {i : Nat} (hi : i ≤ l.length) : outN p l i ≤ i + 1 := by
  unfold outN outP
  split
  · rw [insP_len, List.length_take]; omega
  · rw [List.length_take]; omega
theorem outP_new {p : Pl} {l : List Pl} {i : Nat} (hi : i < l.length) (h : dnP p l i = false) (hc : slt (plB p) (plB (nthPl l i)) = true) : dnP p l (i + 1) = true ∧ outP p l (i + 1) = outP p l i ++ [p] ++ [nthPl l i] := by
  have hx : plCmp p (nthPl l i) < 0 := by
    have := cmp_slt p (nthPl l i)
    rw [hc] at this
    exact of_decide_eq_true this
  have ht := List.take_succ_eq_append_getElem hi
  rw [← nthPl_at hi] at ht
  have hd : dnP p l (i + 1) = true := dnP_is.2 ⟨nthPl l i, by rw [ht]; simp, hx⟩
  have hn : ∀ x ∈ l.take i, ¬ plCmp p x < 0 := fun x hx h2 => by rw [dnP_is.2 ⟨x, hx, h2⟩] at h; cases h
  refine ⟨hd, ?_⟩
  rw [outP, if_pos hd, outP, if_neg (by rw [h]; decide), ht, insP_no hn, insP, if_pos hx]
  simp
theorem outP_not {p : Pl} {l : List Pl} {i : Nat} (hi : i < l.length) (h : dnP p l i = false) (hc : slt (plB p) (plB (nthPl l i)) = false) : dnP p l (i + 1) = false ∧ outP p l (i + 1) = outP p l i ++ [nthPl l i] := by
  have hx : ¬ plCmp p (nthPl l i) < 0 := by
    have := cmp_slt p (nthPl l i)
    rw [hc] at this
    exact of_decide_eq_false this
  have ht := List.take_succ_eq_append_getElem hi
  rw [← nthPl_at hi] at ht
  have hd : dnP p l (i + 1) = false := by
    rw [Bool.eq_false_iff]
    intro h2
    obtain ⟨x, hx1, hx2⟩ := dnP_is.1 h2
    rw [ht, List.mem_append] at hx1
    rcases hx1 with hx1 | hx1
    · rw [dnP_is.2 ⟨x, hx1, hx2⟩] at h; cases h
    · rw [List.mem_singleton.1 hx1] at hx2; exact hx hx2
  refine ⟨hd, ?_⟩
  rw [outP, if_neg (by rw [hd]; decide), outP, if_neg (by rw [h]; decide), ht]
theorem outP_old {p : Pl} {l : List Pl} {i : Nat} (hi : i < l.length) (h : dnP p l i = true) : dnP p l (i + 1) = true ∧ outP p l (i + 1) = outP p l i ++ [nthPl l i] := by
  have ht := List.take_succ_eq_append_getElem hi
  rw [← nthPl_at hi] at ht
  obtain ⟨x, hx1, hx2⟩ := dnP_is.1 h
  have hd : dnP p l (i + 1) = true := dnP_is.2 ⟨x, by rw [ht]; simp [hx1], hx2⟩
  refine ⟨hd, ?_⟩
  rw [outP, if_pos hd, outP, if_pos h, ht, insP_yes ⟨x, hx1, hx2⟩]
theorem outP_end {p : Pl} {l : List Pl} {i : Nat} (hi : i = l.length) : (dnP p l i = true → outP p l i = insP p l) ∧ (dnP p l i = false → outP p l i ++ [p] = insP p l) := by
  subst hi
  refine ⟨fun h => ?_, fun h => ?_⟩
  · rw [outP, if_pos h, List.take_length]
  · rw [outP, if_neg (by rw [h]; decide), List.take_length]
    have hn : ∀ x ∈ l, ¬ plCmp p x < 0 := fun x hx h2 => by rw [dnP_is.2 ⟨x, by simp [hx], h2⟩] at h; cases h
    have := insP_no (p := p) (l := l) (m := []) hn
    rw [List.append_nil] at this
    rw [this]; rfl
theorem nth_app {l : List Pl} {p : Pl} {q : Nat} (hq : q < l.length + 1) : nthPl (l ++ [p]) q = if q < l.length then nthPl l q else p := by
  rw [nthPl_get]
  split
  · rename_i h
    rw [List.getElem?_append_left h, nthPl_get]
  · rename_i h
    obtain rfl : q = l.length := by omega
    rw [List.getElem?_append_right (Nat.le_refl _), Nat.sub_self]; rfl
theorem appPl (n : Nat) (x y : Pl) (q j : Nat) (h : j < 5) (hq : q < n + 1) : sel1 std (nblt q n) (plC std x j) (lget AV.dead [.int .u8 y.a, .int .u8 y.b, .int .u8 y.c, .int .u8 y.d, .int .u16 y.p] ((q - n) * 5 + j)) = plC std (if q < n then x else y) j := by
  by_cases e : q < n
  · rw [if_pos e, blt_t e]
    match j, h with
    | 0, _ => (rw [show (q - n) * 5 + 0 = 0 by omega]; rfl)
    | 1, _ => (rw [show (q - n) * 5 + 1 = 1 by omega]; rfl)
    | 2, _ => (rw [show (q - n) * 5 + 2 = 2 by omega]; rfl)
    | 3, _ => (rw [show (q - n) * 5 + 3 = 3 by omega]; rfl)
    | 4, _ => (rw [show (q - n) * 5 + 4 = 4 by omega]; rfl)
  · rw [if_neg e, blt_f e, show q - n = 0 by omega]
    match j, h with
    | 0, _ => rfl
    | 1, _ => rfl
    | 2, _ => rfl
    | 3, _ => rfl
    | 4, _ => rfl
theorem appCells {l m : List Pl} {y : Pl} {n q j : Nat} (hn : n = l.length) (hm : m = l ++ [y]) (hq : q < m.length) (hj : j < 5) : sel1 std (nblt q n) (plC std (nthPl l q) j) (lget AV.dead [.int .u8 y.a, .int .u8 y.b, .int .u8 y.c, .int .u8 y.d, .int .u16 y.p] ((q - n) * 5 + j)) = plC std (nthPl m q) j := by
  subst hm; subst hn
  rw [List.length_append, List.length_singleton] at hq
  rw [appPl _ _ _ _ _ hj hq, nth_app hq]
theorem app_len {l m : List Pl} {y : Pl} (h : m = l ++ [y]) : l.length + 1 = m.length := by rw [h, List.length_append]; rfl
/-- The row behind the first if. -/
def mdP (p : Pl) (l : List Pl) (i : Nat) : List Pl := if dnP p l (i + 1) = true then outP p l i ++ [p] else outP p l i
def mdN (p : Pl) (l : List Pl) (i : Nat) : Nat := (mdP p l i).length
def dnS (p : Pl) (l : List Pl) (i : Nat) : Bool := dnP p l (i + 1)
theorem mdP_new {p : Pl} {l : List Pl} {i : Nat} (hi : i < l.length) (h : dnP p l i = false) (hc : slt (plB p) (plB (nthPl l i)) = true) : dnS p l i = true ∧ mdP p l i = outP p l i ++ [p] := by
  have m1 := (outP_new hi h hc).1
  exact ⟨m1, if_pos m1⟩
theorem mdP_not {p : Pl} {l : List Pl} {i : Nat} (hi : i < l.length) (h : dnP p l i = false) (hc : slt (plB p) (plB (nthPl l i)) = false) : dnS p l i = false ∧ mdP p l i = outP p l i := by
  have m1 := (outP_not hi h hc).1
  exact ⟨m1, if_neg (by rw [m1]; decide)⟩
theorem mdP_out {p : Pl} {l : List Pl} {i : Nat} (hi : i < l.length) (h : dnP p l i = false) : outP p l (i + 1) = mdP p l i ++ [nthPl l i] := by
  cases hc : slt (plB p) (plB (nthPl l i)) with
  | true => rw [(outP_new hi h hc).2, (mdP_new hi h hc).2]
  | false => rw [(outP_not hi h hc).2, (mdP_not hi h hc).2]
theorem mdP_len {p : Pl} {l : List Pl} {i : Nat} (hi : i ≤ l.length) : mdN p l i ≤ i + 2 := by
  have := outP_len (p := p) hi
  unfold outN at this
  unfold mdN mdP
  split
  · rw [List.length_append, List.length_singleton]; omega
  · omega
def putL (l : List Pl) (p : Pl) : List Pl := insP p l
def put4_s (L : Seal) : Ent1 := (94, fun xs => match xs with
  | [x, .agg [.int .u8 a, .int .u8 b, .int .u8 c, .int .u8 d, .int .u16 q]] => some (L okWPl x ∧ L lenE (L rdWPl x) ∧ L allP (L rdWPl x) ∧ L plOk (mkPl L a b c d q), lstPl L (L2 L putL (L rdWPl x) (mkPl L a b c d q)))
  | _ => none)
def putA4 (L : Seal) (p : Pl) (l : List Pl) : Nat → St → Option Ann := fun id st => match id with
  | 0 => some ⟨Nat, fun i => [(11, .int .i64 (L natI i)), (5, .sl 900 5 0 (L (L (L outN p) l) i)), (6, .bool (L (L (L dnP p) l) i))], fun i => [(900, .row 73 5 (L (L (L outN p) l) i) (fun j => plC L (L (L nthPl (L (L (L outP p) l) i)) j)))], [3, 9, 10], [3], fun i => L2 L leN l i, fun i => L2 L toN l i⟩
  | 1000023 => withInt st 11 fun k => some ⟨Nat, fun _ => [(5, .sl 901 5 0 (L (L (L mdN p) l) (L Int.toNat k))), (6, .bool (L (L (L dnS p) l) (L Int.toNat k)))], fun _ => [(901, .row 73 5 (L (L (L mdN p) l) (L Int.toNat k)) (fun j => plC L (L (L nthPl (L (L (L mdP p) l) (L Int.toNat k))) j)))], [3, 8, 9, 10, 11], [3, 8], fun _ => True, fun _ => 0⟩
  | _ => none
theorem put4_good : Good Tryz.prog (put4_s std) := by
  intro xs p r h hp
  dsimp only [put4_s] at h ⊢
  split at h <;> cases h
  try simp only [L2, L3, std] at hp ⊢
  rename_i x a b c d q
  obtain ⟨ho, hz, ha, hpo⟩ := hp
  refine ac_w1 plV_ok ho ?_
  have hz : lenE (rdWPl x) := hz
  have ha : allP (rdWPl x) := ha
  have hpo : plOk ⟨a, b, c, d, q⟩ := hpo
  show ACalls _ _ (lstW std plV (rdWPl x) :: _) (lstPl std (putL (rdWPl x) ⟨a, b, c, d, q⟩))
  generalize rdWPl x = l at hz ha ⊢
  obtain ⟨p, hpp⟩ : ∃ p : Pl, p = ⟨a, b, c, d, q⟩ := ⟨_, rfl⟩
  rw [← hpp] at hpo ⊢
  refine acalls_L' (T := tt) (S := fun L => sumOf [rbytes_s L]) (lo := fun L => putA4 L p l) (lb := noA) 5 (fn := Tryz.f94) (xs := fun L => [lstPl L l, .agg [.int .u8 a, .int .u8 b, .int .u8 c, .int .u8 d, .int .u16 q]]) rfl rfl (by kernel_rfl) (by kernel_rfl) rfl tt_ok (sumOf_ok ⟨rbytes_good, trivial⟩) (by kernel_rfl) ?_
  intro L P' Q' hL hP hQ
  have hlw : lenW l = l.length := rfl
  have hz : l.length ≤ 1000000 := hz
  have hM : L (L (L (L (L Pl.mk a) b) c) d) q = p := by subst hL; exact hpp.symm
  have hM2 : mkPl L a b c d q = p := hM
  have hE : ∀ y : Pl, L (L (L (L (L Pl.mk (L Pl.a y)) (L Pl.b y)) (L Pl.c y)) (L Pl.d y)) (L Pl.p y) = y := by subst hL; intro y; rfl
  have hE2 : ∀ y : Pl, mkPl L (L Pl.a y) (L Pl.b y) (L Pl.c y) (L Pl.d y) (L Pl.p y) = y := by subst hL; intro y; rfl
  (cbv; try simp only [sat_need, sat_must, sat_ite, sat_done, sat_yes, sat_ex, sat_all, sat_sup, sat_and, sat_fail, true_and, and_true])
  refine ⟨⟨0, ?_⟩, fun i hi => ?_⟩
  · (cbv; try simp only [sat_need, sat_must, sat_ite, sat_done, sat_yes, sat_ex, sat_all, sat_sup, sat_and, sat_fail, true_and, and_true])
    (subst hL; subst hQ; simp only [L2, L3, std] at *; try simp only [sySet, reduceCtorEq, forall_const, Int.reduceToNat, Int.reduceAdd, Int.reduceSub, Int.cast_ofNat_Int, Int.toNat_natCast, Nat.le_eq, Nat.sub_eq, ne_eq, Decidable.not_not, implies_true, true_and, and_true, wadd, wsub, wmul, decide_eq_true_eq, decide_eq_false_iff_not, Nat.succ_eq_add_one, imp_false, not_false_eq_true, not_true_eq_false, false_imp_iff, true_imp_iff] at *)
    exact ⟨rfl, rfl, rfl, Nat.zero_le _⟩
  · have hi2 : i ≤ l.length := by
      have h := hi
      rw [hL] at h
      exact h
    clear hi
    (cbv; try simp only [sat_need, sat_must, sat_ite, sat_done, sat_yes, sat_ex, sat_all, sat_sup, sat_and, sat_fail, true_and, and_true])
    simp only [hE, hE2, hM, hM2]
    have ho1 := outP_len (p := p) hi2
    have ho2 := mdP_len (p := p) hi2
    refine ⟨fun hlt => ⟨?_, fun hb => ⟨?_, ?_, ⟨fun hc => ⟨?_, 0, ?_⟩, fun hc => ⟨0, ?_⟩⟩, fun y hy => ?_⟩, fun hb => ⟨?_, i + 1, ?_⟩⟩, fun hge => ⟨fun hb => ⟨?_, ?_⟩, fun hb => ?_⟩⟩
    · (subst hL; subst hQ; simp only [L2, L3, std] at *; try simp only [sySet, reduceCtorEq, forall_const, Int.reduceToNat, Int.reduceAdd, Int.reduceSub, Int.cast_ofNat_Int, Int.toNat_natCast, Nat.le_eq, Nat.sub_eq, ne_eq, Decidable.not_not, implies_true, true_and, and_true, wadd, wsub, wmul, decide_eq_true_eq, decide_eq_false_iff_not, Nat.succ_eq_add_one, imp_false, not_false_eq_true, not_true_eq_false, false_imp_iff, true_imp_iff] at *)
      omega
    · (subst hL; subst hQ; simp only [L2, L3, std] at *; try simp only [sySet, reduceCtorEq, forall_const, Int.reduceToNat, Int.reduceAdd, Int.reduceSub, Int.cast_ofNat_Int, Int.toNat_natCast, Nat.le_eq, Nat.sub_eq, ne_eq, Decidable.not_not, implies_true, true_and, and_true, wadd, wsub, wmul, decide_eq_true_eq, decide_eq_false_iff_not, Nat.succ_eq_add_one, imp_false, not_false_eq_true, not_true_eq_false, false_imp_iff, true_imp_iff] at *)
      exact hpo
    · (subst hL; subst hQ; simp only [L2, L3, std] at *; try simp only [sySet, reduceCtorEq, forall_const, Int.reduceToNat, Int.reduceAdd, Int.reduceSub, Int.cast_ofNat_Int, Int.toNat_natCast, Nat.le_eq, Nat.sub_eq, ne_eq, Decidable.not_not, implies_true, true_and, and_true, wadd, wsub, wmul, decide_eq_true_eq, decide_eq_false_iff_not, Nat.succ_eq_add_one, imp_false, not_false_eq_true, not_true_eq_false, false_imp_iff, true_imp_iff] at *)
      rw [nthPl_at (by omega)]
      exact ha _ (List.getElem_mem _)
    · (subst hL; subst hQ; simp only [L2, L3, std] at *; try simp only [sySet, reduceCtorEq, forall_const, Int.reduceToNat, Int.reduceAdd, Int.reduceSub, Int.cast_ofNat_Int, Int.toNat_natCast, Nat.le_eq, Nat.sub_eq, ne_eq, Decidable.not_not, implies_true, true_and, and_true, wadd, wsub, wmul, decide_eq_true_eq, decide_eq_false_iff_not, Nat.succ_eq_add_one, imp_false, not_false_eq_true, not_true_eq_false, false_imp_iff, true_imp_iff] at *)
      omega
    · (cbv; try simp only [sat_need, sat_must, sat_ite, sat_done, sat_yes, sat_ex, sat_all, sat_sup, sat_and, sat_fail, true_and, and_true])
      try simp only [hE, hE2, hM, hM2]
      (subst hL; subst hQ; simp only [L2, L3, std] at *; try simp only [sySet, reduceCtorEq, forall_const, Int.reduceToNat, Int.reduceAdd, Int.reduceSub, Int.cast_ofNat_Int, Int.toNat_natCast, Nat.le_eq, Nat.sub_eq, ne_eq, Decidable.not_not, implies_true, true_and, and_true, wadd, wsub, wmul, decide_eq_true_eq, decide_eq_false_iff_not, Nat.succ_eq_add_one, imp_false, not_false_eq_true, not_true_eq_false, false_imp_iff, true_imp_iff] at *)
      obtain ⟨m1, m2⟩ := mdP_new (p := p) (l := l) (i := i) (by omega) hb hc
      subst hpp
      exact ⟨⟨app_len m2, fun q j hq hj => appCells (y := ⟨a, b, c, d, _⟩) rfl m2 hq hj⟩, m1.symm, app_len m2⟩
    · (cbv; try simp only [sat_need, sat_must, sat_ite, sat_done, sat_yes, sat_ex, sat_all, sat_sup, sat_and, sat_fail, true_and, and_true])
      try simp only [hE, hE2, hM, hM2]
      (subst hL; subst hQ; simp only [L2, L3, std] at *; try simp only [sySet, reduceCtorEq, forall_const, Int.reduceToNat, Int.reduceAdd, Int.reduceSub, Int.cast_ofNat_Int, Int.toNat_natCast, Nat.le_eq, Nat.sub_eq, ne_eq, Decidable.not_not, implies_true, true_and, and_true, wadd, wsub, wmul, decide_eq_true_eq, decide_eq_false_iff_not, Nat.succ_eq_add_one, imp_false, not_false_eq_true, not_true_eq_false, false_imp_iff, true_imp_iff] at *)
      obtain ⟨m1, m2⟩ := mdP_not (p := p) (l := l) (i := i) (by omega) hb hc
      have m3 : mdN p l i = outN p l i := by rw [mdN, m2]; rfl
      rw [m2, m3]
      exact ⟨⟨rfl, fun _ _ _ _ => rfl⟩, hb.trans m1.symm, rfl⟩
    · (cbv; try simp only [sat_need, sat_must, sat_ite, sat_done, sat_yes, sat_ex, sat_all, sat_sup, sat_and, sat_fail, true_and, and_true])
      try simp only [hE, hE2, hM, hM2]
      refine ⟨?_, i + 1, ?_⟩
      · (subst hL; subst hQ; simp only [L2, L3, std] at *; try simp only [sySet, reduceCtorEq, forall_const, Int.reduceToNat, Int.reduceAdd, Int.reduceSub, Int.cast_ofNat_Int, Int.toNat_natCast, Nat.le_eq, Nat.sub_eq, ne_eq, Decidable.not_not, implies_true, true_and, and_true, wadd, wsub, wmul, decide_eq_true_eq, decide_eq_false_iff_not, Nat.succ_eq_add_one, imp_false, not_false_eq_true, not_true_eq_false, false_imp_iff, true_imp_iff] at *)
        omega
      · (cbv; try simp only [sat_need, sat_must, sat_ite, sat_done, sat_yes, sat_ex, sat_all, sat_sup, sat_and, sat_fail, true_and, and_true])
        try simp only [hE, hE2, hM, hM2]
        (subst hL; subst hQ; simp only [L2, L3, std] at *; try simp only [sySet, reduceCtorEq, forall_const, Int.reduceToNat, Int.reduceAdd, Int.reduceSub, Int.cast_ofNat_Int, Int.toNat_natCast, Nat.le_eq, Nat.sub_eq, ne_eq, Decidable.not_not, implies_true, true_and, and_true, wadd, wsub, wmul, decide_eq_true_eq, decide_eq_false_iff_not, Nat.succ_eq_add_one, imp_false, not_false_eq_true, not_true_eq_false, false_imp_iff, true_imp_iff] at *)
        have m2 := mdP_out (p := p) (l := l) (i := i) (by omega) hb
        exact ⟨⟨app_len m2, fun q j hq hj => appCells rfl m2 hq hj⟩, rfl, app_len m2, wrap1 rfl (by omega), by show i + 1 ≤ _; omega, by show l.length - (i + 1) + 1 ≤ l.length - i; omega⟩
    · (subst hL; subst hQ; simp only [L2, L3, std] at *; try simp only [sySet, reduceCtorEq, forall_const, Int.reduceToNat, Int.reduceAdd, Int.reduceSub, Int.cast_ofNat_Int, Int.toNat_natCast, Nat.le_eq, Nat.sub_eq, ne_eq, Decidable.not_not, implies_true, true_and, and_true, wadd, wsub, wmul, decide_eq_true_eq, decide_eq_false_iff_not, Nat.succ_eq_add_one, imp_false, not_false_eq_true, not_true_eq_false, false_imp_iff, true_imp_iff] at *)
      omega
    · (cbv; try simp only [sat_need, sat_must, sat_ite, sat_done, sat_yes, sat_ex, sat_all, sat_sup, sat_and, sat_fail, true_and, and_true])
      try simp only [hE, hE2, hM, hM2]
      (subst hL; subst hQ; simp only [L2, L3, std] at *; try simp only [sySet, reduceCtorEq, forall_const, Int.reduceToNat, Int.reduceAdd, Int.reduceSub, Int.cast_ofNat_Int, Int.toNat_natCast, Nat.le_eq, Nat.sub_eq, ne_eq, Decidable.not_not, implies_true, true_and, and_true, wadd, wsub, wmul, decide_eq_true_eq, decide_eq_false_iff_not, Nat.succ_eq_add_one, imp_false, not_false_eq_true, not_true_eq_false, false_imp_iff, true_imp_iff] at *)
      obtain ⟨m1, m2⟩ := outP_old (p := p) (l := l) (i := i) (by omega) hb
      exact ⟨⟨app_len m2, fun q j hq hj => appCells rfl m2 hq hj⟩, hb.trans m1.symm, app_len m2, wrap1 rfl (by omega), by show i + 1 ≤ _; omega, by show l.length - (i + 1) + 1 ≤ l.length - i; omega⟩
    · (subst hL; subst hQ; simp only [L2, L3, std] at *; try simp only [sySet, reduceCtorEq, forall_const, Int.reduceToNat, Int.reduceAdd, Int.reduceSub, Int.cast_ofNat_Int, Int.toNat_natCast, Nat.le_eq, Nat.sub_eq, ne_eq, Decidable.not_not, implies_true, true_and, and_true, wadd, wsub, wmul, decide_eq_true_eq, decide_eq_false_iff_not, Nat.succ_eq_add_one, imp_false, not_false_eq_true, not_true_eq_false, false_imp_iff, true_imp_iff] at *)
      omega
    · subst hQ; subst hL
      have hge : ilt (i : Int) (l.length : Int) = false := hge
      rw [ilt_f] at hge
      have hb : dnP p l i = false := by
        have hb : (!dnP p l i) = true := hb
        simpa using hb
      have m2 := ((outP_end (p := p) (l := l) (i := i) (by omega)).2 hb).symm
      subst hpp
      show fits (.lst 5 (lenW (insP ⟨a, b, c, d, _⟩ l)) fun q => plC std (nthPl (insP ⟨a, b, c, d, _⟩ l) q)) _
      rw [fits_lst]
      refine ⟨app_len m2, fun q j hq hj => ?_⟩
      have := appCells (y := ⟨a, b, c, d, _⟩) rfl m2 hq hj
      simp only [L2, std, add_is, sub_is, Nat.zero_add] at *
      exact this
    · subst hQ; subst hL
      have hge : ilt (i : Int) (l.length : Int) = false := hge
      rw [ilt_f] at hge
      have hb : dnP p l i = true := by
        have hb : (!dnP p l i) = false := hb
        simpa using hb
      have m2 := (outP_end (p := p) (l := l) (i := i) (by omega)).1 hb
      show fits (.lst 5 (lenW (insP p l)) fun q => plC std (nthPl (insP p l) q)) _
      rw [fits_lst, ← m2]
      refine ⟨rfl, fun q j hq hj => ?_⟩
      simp only [L2, std, add_is, Nat.zero_add]
end Sy
end Go.Proofs.YtckbbcjbbmgmoaaGreatDoor
namespace Go.Proofs.YtckbbcjbbmgmoaaGreatDoor
namespace Sy
open Go Go.RowKit
set_option maxRecDepth 100000
set_option linter.unusedSimpArgs false
set_option linter.unusedVariables false
/-! ### Drop -/
def drop_s (L : Seal) : Ent1 := (99, fun xs => match xs with
  | [x, .agg [.int .u8 a, .int .u8 b, .int .u8 c, .int .u8 d, .int .u16 q]] => some (L okWPl x ∧ L lenE (L rdWPl x), lstPl L (L2 L dropP (L rdWPl x) (mkPl L a b c d q)))
  | _ => none)
def dropA (L : Seal) (p : Pl) (l : List Pl) : Nat → St → Option Ann := fun id st => match id with
  | 0 => some ⟨Nat, fun i => [(10, .int .i64 (L natI i)), (5, .sl 900 5 0 (L (L (L kN p) l) i))], fun i => [(900, .row 73 5 (L (L (L kN p) l) i) (fun j => plC L (L (L nthPl (L (L (L keepP p) l) i)) j)))], [3, 8, 9], [3], fun i => L2 L leN l i, fun i => L2 L toN l i⟩
  | _ => none
theorem drop_good : Good Tryz.prog (drop_s std) := by
  intro xs p r h hp
  dsimp only [drop_s] at h ⊢
  split at h <;> cases h
  try simp only [L2, L3, std] at hp ⊢
  rename_i x a b c d q
  obtain ⟨ho, hz⟩ := hp
  refine ac_w1 plV_ok ho ?_
  have hz : lenE (rdWPl x) := hz
  show ACalls _ _ (lstW std plV (rdWPl x) :: _) (lstPl std (dropP (rdWPl x) ⟨a, b, c, d, q⟩))
  generalize rdWPl x = l at hz ⊢
  obtain ⟨p, hpp⟩ : ∃ p : Pl, p = ⟨a, b, c, d, q⟩ := ⟨_, rfl⟩
  rw [← hpp]
  refine acalls_L' (T := tt) (S := fun L => sumOf []) (lo := fun L => dropA L p l) (lb := noA) 5 (fn := Tryz.f99) (xs := fun L => [lstPl L l, .agg [.int .u8 a, .int .u8 b, .int .u8 c, .int .u8 d, .int .u16 q]]) rfl rfl (by kernel_rfl) (by kernel_rfl) rfl tt_ok (sumOf_ok trivial) (by kernel_rfl) ?_
  intro L P' Q' hL hP hQ
  have hlw : lenW l = l.length := rfl
  have hz : l.length ≤ 1000000 := hz
  (cbv; try simp only [sat_need, sat_must, sat_ite, sat_done, sat_yes, sat_ex, sat_all, sat_sup, sat_and, sat_fail, true_and, and_true])
  refine ⟨⟨0, ?_⟩, fun i hi => ?_⟩
  · (cbv; try simp only [sat_need, sat_must, sat_ite, sat_done, sat_yes, sat_ex, sat_all, sat_sup, sat_and, sat_fail, true_and, and_true])
    (subst hL; subst hQ; simp only [L2, L3, std] at *; try simp only [sySet, reduceCtorEq, forall_const, Int.reduceToNat, Int.reduceAdd, Int.reduceSub, Int.cast_ofNat_Int, Int.toNat_natCast, Nat.le_eq, Nat.sub_eq, ne_eq, Decidable.not_not, implies_true, true_and, and_true, wadd, wsub, wmul, decide_eq_true_eq, decide_eq_false_iff_not, Nat.succ_eq_add_one, imp_false, not_false_eq_true, not_true_eq_false, false_imp_iff, true_imp_iff] at *)
    exact ⟨rfl, rfl, Nat.zero_le _⟩
  · have hi2 : i ≤ l.length := by
      have h := hi
      rw [hL] at h
      exact h
    clear hi
    have hk := kN_le (p := p) (l := l) i
    (cbv; try simp only [sat_need, sat_must, sat_ite, sat_done, sat_yes, sat_ex, sat_all, sat_sup, sat_and, sat_fail, true_and, and_true])
    refine ⟨fun hlt => ⟨?_, fun hb => ⟨?_, i + 1, ?_⟩, fun hb => ⟨i + 1, ?_⟩⟩, fun hge => ?_⟩
    · (subst hL; subst hQ; simp only [L2, L3, std] at *; try simp only [sySet, reduceCtorEq, forall_const, Int.reduceToNat, Int.reduceAdd, Int.reduceSub, Int.cast_ofNat_Int, Int.toNat_natCast, Nat.le_eq, Nat.sub_eq, ne_eq, Decidable.not_not, implies_true, true_and, and_true, wadd, wsub, wmul, decide_eq_true_eq, decide_eq_false_iff_not, Nat.succ_eq_add_one, imp_false, not_false_eq_true, not_true_eq_false, false_imp_iff, true_imp_iff] at *)
      omega
    · (subst hL; subst hQ; simp only [L2, L3, std] at *; try simp only [sySet, reduceCtorEq, forall_const, Int.reduceToNat, Int.reduceAdd, Int.reduceSub, Int.cast_ofNat_Int, Int.toNat_natCast, Nat.le_eq, Nat.sub_eq, ne_eq, Decidable.not_not, implies_true, true_and, and_true, wadd, wsub, wmul, decide_eq_true_eq, decide_eq_false_iff_not, Nat.succ_eq_add_one, imp_false, not_false_eq_true, not_true_eq_false, false_imp_iff, true_imp_iff] at *)
      omega
    · have hb2 : eqP p (nthPl l i) = false := by
        subst hL
        rw [hpp]
        refine (eqP_ieq _ _ _ _ _ a b c d q).symm.trans ?_
        have hb := congrArg not hb
        rw [show not true = false from rfl] at hb
        exact (Bool.not_not _).symm.trans hb
      clear hb
      (cbv; try simp only [sat_need, sat_must, sat_ite, sat_done, sat_yes, sat_ex, sat_all, sat_sup, sat_and, sat_fail, true_and, and_true])
      (subst hL; subst hQ; simp only [L2, L3, std] at *; try simp only [sySet, reduceCtorEq, forall_const, Int.reduceToNat, Int.reduceAdd, Int.reduceSub, Int.cast_ofNat_Int, Int.toNat_natCast, Nat.le_eq, Nat.sub_eq, ne_eq, Decidable.not_not, implies_true, true_and, and_true, wadd, wsub, wmul, decide_eq_true_eq, decide_eq_false_iff_not, Nat.succ_eq_add_one, imp_false, not_false_eq_true, not_true_eq_false, false_imp_iff, true_imp_iff] at *)
      have m2 : keepP p l (i + 1) = keepP p l i ++ [nthPl l i] := by
        rw [keep_step (by omega), if_neg (by rw [hb2]; decide)]
      exact ⟨⟨app_len m2, fun q j hq hj => appCells rfl m2 hq hj⟩, app_len m2, wrap1 rfl (by omega), by show i + 1 ≤ _; omega, by show l.length - (i + 1) + 1 ≤ l.length - i; omega⟩
    · have hb2 : eqP p (nthPl l i) = true := by
        subst hL
        rw [hpp]
        refine (eqP_ieq _ _ _ _ _ a b c d q).symm.trans ?_
        have hb := congrArg not hb
        rw [show not false = true from rfl] at hb
        exact (Bool.not_not _).symm.trans hb
      clear hb
      (cbv; try simp only [sat_need, sat_must, sat_ite, sat_done, sat_yes, sat_ex, sat_all, sat_sup, sat_and, sat_fail, true_and, and_true])
      (subst hL; subst hQ; simp only [L2, L3, std] at *; try simp only [sySet, reduceCtorEq, forall_const, Int.reduceToNat, Int.reduceAdd, Int.reduceSub, Int.cast_ofNat_Int, Int.toNat_natCast, Nat.le_eq, Nat.sub_eq, ne_eq, Decidable.not_not, implies_true, true_and, and_true, wadd, wsub, wmul, decide_eq_true_eq, decide_eq_false_iff_not, Nat.succ_eq_add_one, imp_false, not_false_eq_true, not_true_eq_false, false_imp_iff, true_imp_iff] at *)
      have m2 : keepP p l (i + 1) = keepP p l i := by
        rw [keep_step (by omega), if_pos hb2]
      have m3 : kN p l (i + 1) = kN p l i := by rw [kN, m2]; rfl
      rw [m2, m3]
      exact ⟨⟨rfl, fun _ _ _ _ => rfl⟩, rfl, wrap1 rfl (by omega), by show i + 1 ≤ _; omega, by show l.length - (i + 1) + 1 ≤ l.length - i; omega⟩
    · subst hQ; subst hL
      have hge : ilt (i : Int) (l.length : Int) = false := hge
      rw [ilt_f] at hge
      have m2 : keepP p l i = dropP l p := by rw [keepP, List.take_of_length_le (by omega)]
      show fits (.lst 5 (lenW (dropP l p)) fun q => plC std (nthPl (dropP l p) q)) _
      rw [fits_lst, ← m2]
      refine ⟨rfl, fun q j hq hj => ?_⟩
      simp only [L2, std, add_is, Nat.zero_add]
/-! ### Give -/
theorem with_put {g : List Pl} {p : Pl} (h : hasP g p = false) : withL g p = putL g p := if_neg (of_decide_eq_false h)
theorem with_has {g : List Pl} {p : Pl} (h : hasP g p = true) : withL g p = g := if_pos (of_decide_eq_true h)
def rgive_s (L : Seal) : Ent1 := (31, fun xs => match xs with
  | [x] => some (L okWPl x ∧ L lenE (L rdWPl x) ∧ L allP (L rdWPl x), lstPl L (L gaveL (L rdWPl x)))
  | _ => none)
def rgiveA (L : Seal) (l : List Pl) : Nat → St → Option Ann := fun id st => match id with
  | 0 => some ⟨Nat, fun i => [(8, .int .i64 (L natI i)), (3, lstPl L (L (L gaveN l) i))], fun i => [], [6, 7], [], fun i => L2 L leN l i, fun i => L2 L toN l i⟩
  | _ => none
theorem rgive_good : Good Tryz.prog (rgive_s std) := by
  intro xs p r h hp
  dsimp only [rgive_s] at h ⊢
  split at h <;> cases h
  try simp only [L2, L3, std] at hp ⊢
  rename_i x
  obtain ⟨ho, hz, ha⟩ := hp
  refine ac_w1 plV_ok ho ?_
  have hz : lenE (rdWPl x) := hz
  have ha : allP (rdWPl x) := ha
  show ACalls _ _ (lstW std plV (rdWPl x) :: _) (lstPl std (gaveL (rdWPl x)))
  generalize rdWPl x = l at hz ha ⊢
  have hz : l.length ≤ 1000000 := hz
  have hlw : lenW l = l.length := rfl
  refine acalls_L' (T := tt) (S := fun L => sumOf [has_s L, put4_s L]) (lo := fun L => rgiveA L l) (lb := noA) 5 (fn := Tryz.f31) (xs := fun L => [lstPl L l]) rfl rfl (by kernel_rfl) (by kernel_rfl) rfl tt_ok (sumOf_ok ⟨has_good, put4_good, trivial⟩) (by kernel_rfl) ?_
  intro L P' Q' hL hP hQ
  have hG : ∀ y : List Pl, L rdWPl (.lst 5 (L lenW y) (fun i => plC L (L (L nthPl y) i))) = y := by subst hL; exact fun y => rdwPl y
  have hO : ∀ y : List Pl, L okWPl (.lst 5 (L lenW y) (fun i => plC L (L (L nthPl y) i))) := by subst hL; exact fun y => okwPl y
  have hE : ∀ y : Pl, L (L (L (L (L Pl.mk (L Pl.a y)) (L Pl.b y)) (L Pl.c y)) (L Pl.d y)) (L Pl.p y) = y := by subst hL; intro y; rfl
  have hE2 : ∀ y : Pl, mkPl L (L Pl.a y) (L Pl.b y) (L Pl.c y) (L Pl.d y) (L Pl.p y) = y := by subst hL; intro y; rfl
  (cbv; try simp only [sat_need, sat_must, sat_ite, sat_done, sat_yes, sat_ex, sat_all, sat_sup, sat_and, sat_fail, true_and, and_true])
  refine ⟨⟨0, ?_⟩, fun i hi => ?_⟩
  · (cbv; try simp only [sat_need, sat_must, sat_ite, sat_done, sat_yes, sat_ex, sat_all, sat_sup, sat_and, sat_fail, true_and, and_true])
    (subst hL; subst hQ; simp only [L2, L3, std] at *; try simp only [sySet, reduceCtorEq, forall_const, Int.reduceToNat, Int.reduceAdd, Int.reduceSub, Int.cast_ofNat_Int, Int.toNat_natCast, Nat.le_eq, Nat.sub_eq, ne_eq, Decidable.not_not, implies_true, true_and, and_true, wadd, wsub, wmul, decide_eq_true_eq, decide_eq_false_iff_not, Nat.succ_eq_add_one, imp_false, not_false_eq_true, not_true_eq_false, false_imp_iff, true_imp_iff] at *)
    exact ⟨rfl, Nat.zero_le _⟩
  · have hi2 : i ≤ l.length := by
      have h := hi
      rw [hL] at h
      exact h
    clear hi
    have hgl := gaveN_len hi2
    have hgo := gaveN_ok ha i
    (cbv; try simp only [sat_need, sat_must, sat_ite, sat_done, sat_yes, sat_ex, sat_all, sat_sup, sat_and, sat_fail, true_and, and_true])
    simp only [hE, hG, hE2]
    refine ⟨fun hlt => ⟨?_, ⟨hO _, ?_⟩, fun hb => ⟨⟨hO _, ?_, ?_, ?_⟩, i + 1, ?_⟩, fun hb => ⟨i + 1, ?_⟩⟩, fun hge => ?_⟩
    · (subst hL; subst hQ; simp only [L2, L3, std] at *; try simp only [sySet, reduceCtorEq, forall_const, Int.reduceToNat, Int.reduceAdd, Int.reduceSub, Int.cast_ofNat_Int, Int.toNat_natCast, Nat.le_eq, Nat.sub_eq, ne_eq, Decidable.not_not, implies_true, true_and, and_true, wadd, wsub, wmul, decide_eq_true_eq, decide_eq_false_iff_not, Nat.succ_eq_add_one, imp_false, not_false_eq_true, not_true_eq_false, false_imp_iff, true_imp_iff] at *)
      omega
    · (subst hL; subst hQ; simp only [L2, L3, std] at *; try simp only [sySet, reduceCtorEq, forall_const, Int.reduceToNat, Int.reduceAdd, Int.reduceSub, Int.cast_ofNat_Int, Int.toNat_natCast, Nat.le_eq, Nat.sub_eq, ne_eq, Decidable.not_not, implies_true, true_and, and_true, wadd, wsub, wmul, decide_eq_true_eq, decide_eq_false_iff_not, Nat.succ_eq_add_one, imp_false, not_false_eq_true, not_true_eq_false, false_imp_iff, true_imp_iff] at *)
      show _ ≤ 1000000
      omega
    · (subst hL; subst hQ; simp only [L2, L3, std] at *; try simp only [sySet, reduceCtorEq, forall_const, Int.reduceToNat, Int.reduceAdd, Int.reduceSub, Int.cast_ofNat_Int, Int.toNat_natCast, Nat.le_eq, Nat.sub_eq, ne_eq, Decidable.not_not, implies_true, true_and, and_true, wadd, wsub, wmul, decide_eq_true_eq, decide_eq_false_iff_not, Nat.succ_eq_add_one, imp_false, not_false_eq_true, not_true_eq_false, false_imp_iff, true_imp_iff] at *)
      show _ ≤ 1000000
      omega
    · (subst hL; subst hQ; simp only [L2, L3, std] at *; try simp only [sySet, reduceCtorEq, forall_const, Int.reduceToNat, Int.reduceAdd, Int.reduceSub, Int.cast_ofNat_Int, Int.toNat_natCast, Nat.le_eq, Nat.sub_eq, ne_eq, Decidable.not_not, implies_true, true_and, and_true, wadd, wsub, wmul, decide_eq_true_eq, decide_eq_false_iff_not, Nat.succ_eq_add_one, imp_false, not_false_eq_true, not_true_eq_false, false_imp_iff, true_imp_iff] at *)
      exact hgo.ok
    · (subst hL; subst hQ; simp only [L2, L3, std] at *; try simp only [sySet, reduceCtorEq, forall_const, Int.reduceToNat, Int.reduceAdd, Int.reduceSub, Int.cast_ofNat_Int, Int.toNat_natCast, Nat.le_eq, Nat.sub_eq, ne_eq, Decidable.not_not, implies_true, true_and, and_true, wadd, wsub, wmul, decide_eq_true_eq, decide_eq_false_iff_not, Nat.succ_eq_add_one, imp_false, not_false_eq_true, not_true_eq_false, false_imp_iff, true_imp_iff] at *)
      rw [nthPl_at (by omega)]
      exact ha _ (List.getElem_mem _)
    · (cbv; try simp only [sat_need, sat_must, sat_ite, sat_done, sat_yes, sat_ex, sat_all, sat_sup, sat_and, sat_fail, true_and, and_true])
      try simp only [hE, hG, hE2]
      (subst hL; subst hQ; simp only [L2, L3, std] at *; try simp only [sySet, reduceCtorEq, forall_const, Int.reduceToNat, Int.reduceAdd, Int.reduceSub, Int.cast_ofNat_Int, Int.toNat_natCast, Nat.le_eq, Nat.sub_eq, ne_eq, Decidable.not_not, implies_true, true_and, and_true, wadd, wsub, wmul, decide_eq_true_eq, decide_eq_false_iff_not, Nat.succ_eq_add_one, imp_false, not_false_eq_true, not_true_eq_false, false_imp_iff, true_imp_iff] at *)
      have hs := gaveN_step (l := l) (i := i) (by omega)
      rw [with_put hb] at hs
      rw [hs]
      exact ⟨⟨rfl, fun _ _ _ _ => rfl⟩, wrap1 rfl (by omega), by show i + 1 ≤ _; omega, by show l.length - (i + 1) + 1 ≤ l.length - i; omega⟩
    · (cbv; try simp only [sat_need, sat_must, sat_ite, sat_done, sat_yes, sat_ex, sat_all, sat_sup, sat_and, sat_fail, true_and, and_true])
      try simp only [hE, hG, hE2]
      (subst hL; subst hQ; simp only [L2, L3, std] at *; try simp only [sySet, reduceCtorEq, forall_const, Int.reduceToNat, Int.reduceAdd, Int.reduceSub, Int.cast_ofNat_Int, Int.toNat_natCast, Nat.le_eq, Nat.sub_eq, ne_eq, Decidable.not_not, implies_true, true_and, and_true, wadd, wsub, wmul, decide_eq_true_eq, decide_eq_false_iff_not, Nat.succ_eq_add_one, imp_false, not_false_eq_true, not_true_eq_false, false_imp_iff, true_imp_iff] at *)
      have hs := gaveN_step (l := l) (i := i) (by omega)
      rw [with_has hb] at hs
      rw [← hs]
      exact ⟨⟨rfl, fun _ _ _ _ => rfl⟩, wrap1 rfl (by omega), by show i + 1 ≤ _; omega, by show l.length - (i + 1) + 1 ≤ l.length - i; omega⟩
    · subst hQ; subst hL
      have hge : ilt (i : Int) (l.length : Int) = false := hge
      rw [ilt_f] at hge
      have hg : gaveL l = gaveN l i := by
        unfold gaveL gaveN
        rw [List.take_of_length_le (by omega)]
      show fits (.lst 5 (lenW (gaveL l)) fun q => plC std (nthPl (gaveL l) q)) _
      rw [fits_lst, hg]
      exact ⟨rfl, fun _ _ _ _ => rfl⟩
/-! ### places, same -/
def places_s (L : Seal) : Ent1 := (32, fun xs => match xs with
  | [x] => some (L okWPl x ∧ L lenE (L rdWPl x), lstPl L (L rdWPl x))
  | _ => none)
def placesA (L : Seal) (l : List Pl) : Nat → St → Option Ann := fun id st => match id with
  | 0 => some ⟨Nat, fun i => [(8, .int .i64 (L natI i)), (3, .sl 900 5 0 i)], fun i => [(900, .row 73 5 i (fun j => plC L (L (L nthPl l) j)))], [6, 7], [], fun i => L2 L leN l i, fun i => L2 L toN l i⟩
  | _ => none
theorem places_good : Good Tryz.prog (places_s std) := by
  intro xs p r h hp
  dsimp only [places_s] at h ⊢
  split at h <;> cases h
  try simp only [L2, L3, std] at hp ⊢
  rename_i x
  obtain ⟨ho, hz⟩ := hp
  refine ac_w1 plV_ok ho ?_
  have hz : lenE (rdWPl x) := hz
  show ACalls _ _ (lstW std plV (rdWPl x) :: _) (lstPl std (rdWPl x))
  generalize rdWPl x = l at hz ⊢
  have hz : l.length ≤ 1000000 := hz
  have hlw : lenW l = l.length := rfl
  refine acalls_L' (T := tt) (S := fun L => sumOf []) (lo := fun L => placesA L l) (lb := noA) 5 (fn := Tryz.f32) (xs := fun L => [lstPl L l]) rfl rfl (by kernel_rfl) (by kernel_rfl) rfl tt_ok (sumOf_ok trivial) (by kernel_rfl) ?_
  intro L P' Q' hL hP hQ
  (cbv; try simp only [sat_need, sat_must, sat_ite, sat_done, sat_yes, sat_ex, sat_all, sat_sup, sat_and, sat_fail, true_and, and_true])
  refine ⟨⟨0, ?_⟩, fun i hi => ?_⟩
  · (cbv; try simp only [sat_need, sat_must, sat_ite, sat_done, sat_yes, sat_ex, sat_all, sat_sup, sat_and, sat_fail, true_and, and_true])
    (subst hL; subst hQ; simp only [L2, L3, std] at *; try simp only [sySet, reduceCtorEq, forall_const, Int.reduceToNat, Int.reduceAdd, Int.reduceSub, Int.cast_ofNat_Int, Int.toNat_natCast, Nat.le_eq, Nat.sub_eq, ne_eq, Decidable.not_not, implies_true, true_and, and_true, wadd, wsub, wmul, decide_eq_true_eq, decide_eq_false_iff_not, Nat.succ_eq_add_one, imp_false, not_false_eq_true, not_true_eq_false, false_imp_iff, true_imp_iff] at *)
    exact Nat.zero_le _
  · have hi2 : i ≤ l.length := by
      have h := hi
      rw [hL] at h
      exact h
    clear hi
    (cbv; try simp only [sat_need, sat_must, sat_ite, sat_done, sat_yes, sat_ex, sat_all, sat_sup, sat_and, sat_fail, true_and, and_true])
    refine ⟨fun hlt => ⟨?_, ?_, i + 1, ?_⟩, fun hge => ?_⟩
    · (subst hL; subst hQ; simp only [L2, L3, std] at *; try simp only [sySet, reduceCtorEq, forall_const, Int.reduceToNat, Int.reduceAdd, Int.reduceSub, Int.cast_ofNat_Int, Int.toNat_natCast, Nat.le_eq, Nat.sub_eq, ne_eq, Decidable.not_not, implies_true, true_and, and_true, wadd, wsub, wmul, decide_eq_true_eq, decide_eq_false_iff_not, Nat.succ_eq_add_one, imp_false, not_false_eq_true, not_true_eq_false, false_imp_iff, true_imp_iff] at *)
      omega
    · (subst hL; subst hQ; simp only [L2, L3, std] at *; try simp only [sySet, reduceCtorEq, forall_const, Int.reduceToNat, Int.reduceAdd, Int.reduceSub, Int.cast_ofNat_Int, Int.toNat_natCast, Nat.le_eq, Nat.sub_eq, ne_eq, Decidable.not_not, implies_true, true_and, and_true, wadd, wsub, wmul, decide_eq_true_eq, decide_eq_false_iff_not, Nat.succ_eq_add_one, imp_false, not_false_eq_true, not_true_eq_false, false_imp_iff, true_imp_iff] at *)
      omega
    · (cbv; try simp only [sat_need, sat_must, sat_ite, sat_done, sat_yes, sat_ex, sat_all, sat_sup, sat_and, sat_fail, true_and, and_true])
      (subst hL; subst hQ; simp only [L2, L3, std] at *; try simp only [sySet, reduceCtorEq, forall_const, Int.reduceToNat, Int.reduceAdd, Int.reduceSub, Int.cast_ofNat_Int, Int.toNat_natCast, Nat.le_eq, Nat.sub_eq, ne_eq, Decidable.not_not, implies_true, true_and, and_true, wadd, wsub, wmul, decide_eq_true_eq, decide_eq_false_iff_not, Nat.succ_eq_add_one, imp_false, not_false_eq_true, not_true_eq_false, false_imp_iff, true_imp_iff] at *)
      refine ⟨fun q j hq hj => ?_, wrap1 rfl (by omega), by show i + 1 ≤ _; omega, by show l.length - (i + 1) + 1 ≤ l.length - i; omega⟩
      rw [appPl _ _ _ _ _ hj hq]
      split
      · rfl
      · rw [show q = i by omega]
    · subst hQ; subst hL
      have hge : ilt (i : Int) (l.length : Int) = false := hge
      rw [ilt_f] at hge
      show fits (.lst 5 (lenW l) fun q => plC std (nthPl l q)) _
      rw [fits_lst]
      refine ⟨by show i = l.length; omega, fun q j hq hj => ?_⟩
      simp only [L2, std, add_is, Nat.zero_add]
def sameB (l m : List Pl) : Bool := decide (l = m)
def same_s (L : Seal) : Ent1 := (36, fun xs => match xs with
  | [x, y] => some (L okWPl x ∧ L lenE (L rdWPl x) ∧ L okWPl y ∧ L lenE (L rdWPl y), .bool (L2 L sameB (L rdWPl x) (L rdWPl y)))
  | _ => none)
def sameN (l m : List Pl) (i : Nat) : Prop := i ≤ l.length ∧ l.length = m.length ∧ l.take i = m.take i
def sameA (L : Seal) (l m : List Pl) : Nat → St → Option Ann := fun id st => match id with
  | 0 => some ⟨Nat, fun i => [(13, .int .i64 (L natI i))], fun i => [], [0, 1, 12], [], fun i => L (L (L sameN l) m) i, fun i => L2 L toN l i⟩
  | _ => none
theorem same_good : Good Tryz.prog (same_s std) := by
  intro xs p r h hp
  dsimp only [same_s] at h ⊢
  split at h <;> cases h
  try simp only [L2, L3, std] at hp ⊢
  rename_i x y
  obtain ⟨ho, hz, ho2, hz2⟩ := hp
  refine ac_w1 plV_ok ho (ac_w2 plV_ok ho2 ?_)
  have hz : lenE (rdWPl x) := hz
  have hz2 : lenE (rdWPl y) := hz2
  show ACalls _ _ (lstW std plV (rdWPl x) :: lstW std plV (rdWPl y) :: _) (.bool (sameB (rdWPl x) (rdWPl y)))
  generalize rdWPl x = l at hz ⊢
  generalize rdWPl y = m at hz2 ⊢
  have hz : l.length ≤ 1000000 := hz
  have hz2 : m.length ≤ 1000000 := hz2
  have hlw : lenW l = l.length := rfl
  have hmw : lenW m = m.length := rfl
  refine acalls_L' (T := tt) (S := fun L => sumOf []) (lo := fun L => sameA L l m) (lb := noA) 5 (fn := Tryz.f36) (xs := fun L => [lstPl L l, lstPl L m]) rfl rfl (by kernel_rfl) (by kernel_rfl) rfl tt_ok (sumOf_ok trivial) (by kernel_rfl) ?_
  intro L P' Q' hL hP hQ
  (cbv; try simp only [sat_need, sat_must, sat_ite, sat_done, sat_yes, sat_ex, sat_all, sat_sup, sat_and, sat_fail, true_and, and_true])
  refine ⟨fun hn => ?_, fun hn => ⟨⟨0, ?_⟩, fun i hi => ?_⟩⟩
  · (subst hL; subst hQ; simp only [L2, L3, std] at *; try simp only [sySet, reduceCtorEq, forall_const, Int.reduceToNat, Int.reduceAdd, Int.reduceSub, Int.cast_ofNat_Int, Int.toNat_natCast, Nat.le_eq, Nat.sub_eq, ne_eq, Decidable.not_not, implies_true, true_and, and_true, wadd, wsub, wmul, decide_eq_true_eq, decide_eq_false_iff_not, Nat.succ_eq_add_one, imp_false, not_false_eq_true, not_true_eq_false, false_imp_iff, true_imp_iff] at *)
    have hn2 : ¬ l.length = m.length := by omega
    exact (decide_eq_false (fun h => hn2 (by rw [h]))).symm
  · (cbv; try simp only [sat_need, sat_must, sat_ite, sat_done, sat_yes, sat_ex, sat_all, sat_sup, sat_and, sat_fail, true_and, and_true])
    (subst hL; subst hQ; simp only [L2, L3, std] at *; try simp only [sySet, reduceCtorEq, forall_const, Int.reduceToNat, Int.reduceAdd, Int.reduceSub, Int.cast_ofNat_Int, Int.toNat_natCast, Nat.le_eq, Nat.sub_eq, ne_eq, Decidable.not_not, implies_true, true_and, and_true, wadd, wsub, wmul, decide_eq_true_eq, decide_eq_false_iff_not, Nat.succ_eq_add_one, imp_false, not_false_eq_true, not_true_eq_false, false_imp_iff, true_imp_iff] at *)
    exact ⟨Nat.zero_le _, by omega, by simp⟩
  · have hi2 : sameN l m i := by
      have h := hi
      rw [hL] at h
      exact h
    clear hi
    obtain ⟨hi3, hlm, htk⟩ := hi2
    (cbv; try simp only [sat_need, sat_must, sat_ite, sat_done, sat_yes, sat_ex, sat_all, sat_sup, sat_and, sat_fail, true_and, and_true])
    refine ⟨fun hlt => ⟨?_, ?_, fun hb => ?_, fun hb => ⟨i + 1, ?_⟩⟩, fun hge => ?_⟩
    · (subst hL; subst hQ; simp only [L2, L3, std] at *; try simp only [sySet, reduceCtorEq, forall_const, Int.reduceToNat, Int.reduceAdd, Int.reduceSub, Int.cast_ofNat_Int, Int.toNat_natCast, Nat.le_eq, Nat.sub_eq, ne_eq, Decidable.not_not, implies_true, true_and, and_true, wadd, wsub, wmul, decide_eq_true_eq, decide_eq_false_iff_not, Nat.succ_eq_add_one, imp_false, not_false_eq_true, not_true_eq_false, false_imp_iff, true_imp_iff] at *)
      omega
    · (subst hL; subst hQ; simp only [L2, L3, std] at *; try simp only [sySet, reduceCtorEq, forall_const, Int.reduceToNat, Int.reduceAdd, Int.reduceSub, Int.cast_ofNat_Int, Int.toNat_natCast, Nat.le_eq, Nat.sub_eq, ne_eq, Decidable.not_not, implies_true, true_and, and_true, wadd, wsub, wmul, decide_eq_true_eq, decide_eq_false_iff_not, Nat.succ_eq_add_one, imp_false, not_false_eq_true, not_true_eq_false, false_imp_iff, true_imp_iff] at *)
      omega
    · subst hQ; subst hL
      have hlt : ilt (i : Int) (l.length : Int) = true := hlt
      rw [ilt_t] at hlt
      have hb2 : eqP (nthPl m i) (nthPl l i) = false := by
        refine (eqP_ieq _ _ _ _ _ _ _ _ _ _).symm.trans ?_
        have hb := congrArg not hb
        rw [show not true = false from rfl] at hb
        exact (Bool.not_not _).symm.trans hb
      have hb3 : ¬ nthPl l i = nthPl m i := of_decide_eq_false hb2
      exact (fits_bool _ _).mpr (decide_eq_false (fun h => hb3 (by rw [h]))).symm
    · have hb2 : eqP (nthPl m i) (nthPl l i) = true := by
        subst hL
        refine (eqP_ieq _ _ _ _ _ _ _ _ _ _).symm.trans ?_
        have hb := congrArg not hb
        rw [show not false = true from rfl] at hb
        exact (Bool.not_not _).symm.trans hb
      clear hb
      have hb3 : nthPl l i = nthPl m i := of_decide_eq_true hb2
      (cbv; try simp only [sat_need, sat_must, sat_ite, sat_done, sat_yes, sat_ex, sat_all, sat_sup, sat_and, sat_fail, true_and, and_true])
      (subst hL; subst hQ; simp only [L2, L3, std] at *; try simp only [sySet, reduceCtorEq, forall_const, Int.reduceToNat, Int.reduceAdd, Int.reduceSub, Int.cast_ofNat_Int, Int.toNat_natCast, Nat.le_eq, Nat.sub_eq, ne_eq, Decidable.not_not, implies_true, true_and, and_true, wadd, wsub, wmul, decide_eq_true_eq, decide_eq_false_iff_not, Nat.succ_eq_add_one, imp_false, not_false_eq_true, not_true_eq_false, false_imp_iff, true_imp_iff] at *)
      refine ⟨wrap1 rfl (by omega), ⟨by omega, hlm, ?_⟩, by show l.length - (i + 1) + 1 ≤ l.length - i; omega⟩
      rw [nthPl_at (by omega), nthPl_at (by omega)] at hb3
      rw [List.take_succ_eq_append_getElem (show i < l.length by omega), List.take_succ_eq_append_getElem (show i < m.length by omega), htk, hb3]
    · subst hQ; subst hL
      have hge : ilt (i : Int) (l.length : Int) = false := hge
      rw [ilt_f] at hge
      rw [List.take_of_length_le (by omega), List.take_of_length_le (by omega)] at htk
      exact (fits_bool _ _).mpr (decide_eq_true htk).symm
/-! ### Token, Taken -/
def toE (e : Int) (l : List Pl) (s : List UInt8) : Int := tkE ⟨e, l⟩ s
def toL (e : Int) (l : List Pl) (s : List UInt8) : List Pl := Gv.l (tkG ⟨e, l⟩ s)
def toP (e : Int) (l : List Pl) (s : List UInt8) : Pl := tkP ⟨e, l⟩ s
def toM (e : Int) (l : List Pl) (s : List UInt8) : List UInt8 := tkS ⟨e, l⟩ s
def u64I (e : Int) : Prop := 0 ≤ e ∧ e < 18446744073709551616
def token_s (L : Seal) : Ent1 := (35, fun xs => match xs with
  | [.int .u64 e, x, .str s] => some (L u64I e ∧ L okWPl x ∧ L lenE (L rdWPl x) ∧ L OkP (L rdWPl x) ∧ L2 L upto 900000 s, .tup [lstPl L (L3 L toL e (L rdWPl x) s), plA L (L3 L toP e (L rdWPl x) s), .str (L3 L toM e (L rdWPl x) s), .int .i64 (L3 L toE e (L rdWPl x) s)])
  | _ => none)
end Sy
end Go.Proofs.YtckbbcjbbmgmoaaGreatDoor
namespace Go.Proofs.YtckbbcjbbmgmoaaGreatDoor
namespace Sy
open Go Go.RowKit
set_option maxRecDepth 100000
set_option linter.unusedSimpArgs false
set_option linter.unusedVariables false

theorem awake08_ac : ACalls Tryz.prog 184 [] (.bool true) := by
  refine acalls_L (T := tt) (S := fun L => sumOf [by_s L, tru 210, size_s L]) (lo := noA) (lb := noA) 5 (fn := Tryz.f184) rfl rfl (by kernel_rfl) (by kernel_rfl) rfl tt_ok (sumOf_ok ⟨by_good, tru_good Awake02_ac, size_good, trivial⟩) (by kernel_rfl) ?_
  (intro L P1 Q1 hL hP hQ; cbv; subst hL; simp only [L2, L3, std, sat_need, sat_must, sat_ite, sat_done, sat_yes, sat_ex, sat_all, sat_sup, sat_and, sat_fail]; subst hQ)
  (simp only [sySet, reduceCtorEq, forall_const, Int.reduceToNat, Int.reduceAdd, Int.reduceSub, Int.cast_ofNat_Int, Int.toNat_natCast, Nat.le_eq, Nat.sub_eq, ne_eq, Decidable.not_not, implies_true, true_and, and_true, wadd, wsub, wmul, decide_eq_true_eq, decide_eq_false_iff_not, Nat.succ_eq_add_one, imp_false, not_false_eq_true, not_true_eq_false, false_imp_iff, true_imp_iff])
  have e : byE 1 [] = 0 := rfl
  have t : byT 1 0 [] = markL (headT 1 0 []) := rfl
  rw [t, markL_length, headT_length]
  simp [byOk, e]
end Sy
end Go.Proofs.YtckbbcjbbmgmoaaGreatDoor
namespace Go.Proofs.YtckbbcjbbmgmoaaGreatDoor
namespace Sy
open Go Go.RowKit
set_option maxRecDepth 100000
set_option linter.unusedSimpArgs false
set_option linter.unusedVariables false
/-! ### The pipe, empty -/
def phas_s : Ent1 := (100, fun xs => match xs with
  | [.agg [.nils], .int .i64 n] => some (True, .bool false)
  | _ => none)
theorem phas_good : Good Tryz.prog phas_s := by
  intro xs p r h hp
  dsimp only [phas_s] at h ⊢
  split at h <;> cases h
  try simp only [L2, L3, std] at hp ⊢
  rename_i n
  refine acalls_L (T := tt) (S := noS) (lo := noA) (lb := noA) 5 (fn := Tryz.f100) rfl rfl (by kernel_rfl) (by kernel_rfl) rfl tt_ok (noS_ok _) (by kernel_rfl) ?_
  (intro L P1 Q1 hL hP hQ; cbv; subst hL; simp only [L2, L3, std, sat_need, sat_must, sat_ite, sat_done, sat_yes, sat_ex, sat_all, sat_sup, sat_and, sat_fail]; subst hQ)
  (simp only [sySet, reduceCtorEq, forall_const, Int.reduceToNat, Int.reduceAdd, Int.reduceSub, Int.cast_ofNat_Int, Int.toNat_natCast, Nat.le_eq, Nat.sub_eq, ne_eq, Decidable.not_not, implies_true, true_and, and_true, wadd, wsub, wmul, decide_eq_true_eq, decide_eq_false_iff_not, Nat.succ_eq_add_one, imp_false, not_false_eq_true, not_true_eq_false, false_imp_iff, true_imp_iff])
  exact fun h => h
def pdel_s : Ent1 := (41, fun xs => match xs with
  | [.agg [.nils], .int .i64 n] => some (True, .tup [.agg [.nils], .agg [.int .u64 0, .str []], .int .i64 12])
  | _ => none)
theorem pdel_good : Good Tryz.prog pdel_s := by
  intro xs p r h hp
  dsimp only [pdel_s] at h ⊢
  split at h <;> cases h
  try simp only [L2, L3, std] at hp ⊢
  rename_i n
  refine acalls_L (T := tt) (S := fun L => sumOf [phas_s]) (lo := noA) (lb := noA) 5 (fn := Tryz.f41) rfl rfl (by kernel_rfl) (by kernel_rfl) rfl tt_ok (sumOf_ok ⟨phas_good, trivial⟩) (by kernel_rfl) ?_
  (intro L P1 Q1 hL hP hQ; cbv; subst hL; simp only [L2, L3, std, sat_need, sat_must, sat_ite, sat_done, sat_yes, sat_ex, sat_all, sat_sup, sat_and, sat_fail]; subst hQ)
  (simp only [sySet, reduceCtorEq, forall_const, Int.reduceToNat, Int.reduceAdd, Int.reduceSub, Int.cast_ofNat_Int, Int.toNat_natCast, Nat.le_eq, Nat.sub_eq, ne_eq, Decidable.not_not, implies_true, true_and, and_true, wadd, wsub, wmul, decide_eq_true_eq, decide_eq_false_iff_not, Nat.succ_eq_add_one, imp_false, not_false_eq_true, not_true_eq_false, false_imp_iff, true_imp_iff])
  simp [fits1, meetA, meetV, meetL, Meet.add, andL]
def plose_s : Ent1 := (46, fun xs => match xs with
  | [.agg [.nils], .int .i64 n] => some (True, .tup [.agg [.nils], .int .i64 12])
  | _ => none)
theorem plose_good : Good Tryz.prog plose_s := by
  intro xs p r h hp
  dsimp only [plose_s] at h ⊢
  split at h <;> cases h
  try simp only [L2, L3, std] at hp ⊢
  rename_i n
  refine acalls_L (T := tt) (S := fun L => sumOf [pdel_s]) (lo := noA) (lb := noA) 5 (fn := Tryz.f46) rfl rfl (by kernel_rfl) (by kernel_rfl) rfl tt_ok (sumOf_ok ⟨pdel_good, trivial⟩) (by kernel_rfl) ?_
  (intro L P1 Q1 hL hP hQ; cbv; subst hL; simp only [L2, L3, std, sat_need, sat_must, sat_ite, sat_done, sat_yes, sat_ex, sat_all, sat_sup, sat_and, sat_fail]; subst hQ)
  (simp only [sySet, reduceCtorEq, forall_const, Int.reduceToNat, Int.reduceAdd, Int.reduceSub, Int.cast_ofNat_Int, Int.toNat_natCast, Nat.le_eq, Nat.sub_eq, ne_eq, Decidable.not_not, implies_true, true_and, and_true, wadd, wsub, wmul, decide_eq_true_eq, decide_eq_false_iff_not, Nat.succ_eq_add_one, imp_false, not_false_eq_true, not_true_eq_false, false_imp_iff, true_imp_iff])
  simp [fits1, meetA, meetV, meetL, Meet.add, andL]
theorem aggnil_R {h : Array Obj} {D : Nat → Prop} {μ : Mu} {v : Value} (sz : Nat) (g : Nat → Nat → AV) (r : R h D μ (.agg [.nils]) v) : R h D μ (.agg [.lst sz 0 g]) v := by
  obtain ⟨us, rfl, o1, s1, hr⟩ := r.inv_agg
  refine .agg _ _ s1 o1 fun i y w hy hw => ?_
  cases i with
  | zero =>
    cases hy
    have := hr 0 .nils w rfl hw
    cases this
    exact .lst0 _ _ none 0 (fun _ => rfl)
  | succ i => simp at hy
theorem ac_aggnil {P : Program} {f : FuncId} {r : AV} {q : List AV} (sz : Nat) (g : Nat → Nat → AV) (h : ACalls P f (.agg [.lst sz 0 g] :: q) r) : ACalls P f (.agg [.nils] :: q) r :=
  ac_args' (fun h D vs hr => rl_1 (fun v => aggnil_R sz g) hr) h
theorem fits_agg (x y : List AV) : fits (.agg x) (.agg y) = fits1 (.agg x) (.agg y) := by unfold fits; rfl
def psend_s : Ent1 := (42, fun xs => match xs with
  | [.agg [.nils], .int .u64 1, .str s] => some (True, .agg [.lst 2 1 (fun _ j => lget .dead [.int .u64 1, .str s] j)])
  | _ => none)
theorem psend_good : Good Tryz.prog psend_s := by
  intro xs p r h hp
  dsimp only [psend_s] at h ⊢
  split at h <;> cases h
  try simp only [L2, L3, std] at hp ⊢
  rename_i s
  refine ac_aggnil 2 (fun _ j => lget .dead [.int .u64 0, .str []] j) ?_
  refine acalls_L (T := tt) (S := noS) (lo := noA) (lb := noA) 5 (fn := Tryz.f42) rfl rfl (by kernel_rfl) (by kernel_rfl) rfl tt_ok (noS_ok _) (by kernel_rfl) ?_
  intro L P' Q' hL hP hQ
  (cbv; try simp only [sat_need, sat_must, sat_ite, sat_done, sat_yes, sat_ex, sat_all, sat_sup, sat_and, sat_fail, true_and, and_true])
  have hk : L (L imax (L (L (wsub .i64) (L natI (L (L Nat.add (L Int.toNat (L natI 0))) 1))) 64)) 0 = 0 := by subst hL; decide
  simp only [hk]
  subst hQ; subst hL
  refine ⟨by decide, by decide, by decide, ?_⟩
  rw [fits_agg, fits1_aggl, fits1_agg0]
  refine ⟨⟨rfl, fun i j hi hj => ?_⟩, trivial⟩
  obtain rfl : i = 0 := by omega
  match j, hj with
  | 0, _ => rfl
  | 1, _ => rfl
def plen_s : Ent1 := (44, fun xs => match xs with
  | [.agg [.lst 2 1 get]] => some (True, .int .i64 1)
  | _ => none)
theorem plen_good : Good Tryz.prog plen_s := by
  intro xs p r h hp
  dsimp only [plen_s] at h ⊢
  split at h <;> cases h
  try simp only [L2, L3, std] at hp ⊢
  rename_i get
  refine acalls_L (T := tt) (S := noS) (lo := noA) (lb := noA) 5 (fn := Tryz.f44) rfl rfl (by kernel_rfl) (by kernel_rfl) rfl tt_ok (noS_ok _) (by kernel_rfl) ?_
  (intro L P1 Q1 hL hP hQ; cbv; subst hL; simp only [L2, L3, std, sat_need, sat_must, sat_ite, sat_done, sat_yes, sat_ex, sat_all, sat_sup, sat_and, sat_fail]; subst hQ)
  rw [fits_int]; rfl
theorem awake25_ac : ACalls Tryz.prog 185 [] (.bool true) := by
  refine acalls_L (T := tt) (S := fun L => sumOf [plose_s, psend_s, plen_s]) (lo := noA) (lb := noA) 5 (fn := Tryz.f185) rfl rfl (by kernel_rfl) (by kernel_rfl) rfl tt_ok (sumOf_ok ⟨plose_good, psend_good, plen_good, trivial⟩) (by kernel_rfl) ?_
  (intro L P1 Q1 hL hP hQ; cbv; subst hL; simp only [L2, L3, std, sat_need, sat_must, sat_ite, sat_done, sat_yes, sat_ex, sat_all, sat_sup, sat_and, sat_fail]; subst hQ)
  (simp only [sySet, reduceCtorEq, forall_const, Int.reduceToNat, Int.reduceAdd, Int.reduceSub, Int.cast_ofNat_Int, Int.toNat_natCast, Nat.le_eq, Nat.sub_eq, ne_eq, Decidable.not_not, implies_true, true_and, and_true, wadd, wsub, wmul, decide_eq_true_eq, decide_eq_false_iff_not, Nat.succ_eq_add_one, imp_false, not_false_eq_true, not_true_eq_false, false_imp_iff, true_imp_iff])
theorem Awake25_ac : ACalls Tryz.prog 146 [] (.bool true) := by
  refine acalls_L (T := tt) (S := fun L => sumOf [tru 185]) (lo := noA) (lb := noA) 5 (fn := Tryz.f146) rfl rfl (by kernel_rfl) (by kernel_rfl) rfl tt_ok (sumOf_ok ⟨tru_good awake25_ac, trivial⟩) (by kernel_rfl) ?_
  (intro L P1 Q1 hL hP hQ; cbv; subst hL; simp only [L2, L3, std, sat_need, sat_must, sat_ite, sat_done, sat_yes, sat_ex, sat_all, sat_sup, sat_and, sat_fail]; subst hQ)
  (simp only [sySet, reduceCtorEq, forall_const, Int.reduceToNat, Int.reduceAdd, Int.reduceSub, Int.cast_ofNat_Int, Int.toNat_natCast, Nat.le_eq, Nat.sub_eq, ne_eq, Decidable.not_not, implies_true, true_and, and_true, wadd, wsub, wmul, decide_eq_true_eq, decide_eq_false_iff_not, Nat.succ_eq_add_one, imp_false, not_false_eq_true, not_true_eq_false, false_imp_iff, true_imp_iff])
theorem Awake08_ac : ACalls Tryz.prog 145 [] (.bool true) := by
  refine acalls_L (T := tt) (S := fun L => sumOf [tru 184]) (lo := noA) (lb := noA) 5 (fn := Tryz.f145) rfl rfl (by kernel_rfl) (by kernel_rfl) rfl tt_ok (sumOf_ok ⟨tru_good awake08_ac, trivial⟩) (by kernel_rfl) ?_
  (intro L P1 Q1 hL hP hQ; cbv; subst hL; simp only [L2, L3, std, sat_need, sat_must, sat_ite, sat_done, sat_yes, sat_ex, sat_all, sat_sup, sat_and, sat_fail]; subst hQ)
  (simp only [sySet, reduceCtorEq, forall_const, Int.reduceToNat, Int.reduceAdd, Int.reduceSub, Int.cast_ofNat_Int, Int.toNat_natCast, Nat.le_eq, Nat.sub_eq, ne_eq, Decidable.not_not, implies_true, true_and, and_true, wadd, wsub, wmul, decide_eq_true_eq, decide_eq_false_iff_not, Nat.succ_eq_add_one, imp_false, not_false_eq_true, not_true_eq_false, false_imp_iff, true_imp_iff])
/-! ### Chapter 26's -/
def aw26_s (L : Seal) : Sums := sumOf [give_s L, msgs_s L, ttake_s L, gtake_s L, done_s L, tru 47, tru 145, tru 146]
def p80 : Pl := ⟨0, 0, 0, 0, 80⟩
theorem p80_ok : plOk p80 := ⟨⟨by decide, by decide⟩, ⟨by decide, by decide⟩, ⟨by decide, by decide⟩, ⟨by decide, by decide⟩, by decide, by decide⟩
theorem p80_16 : rdE (hmT 16 3 p80) 16 3 = 0 ∧ rdQ (hmT 16 3 p80) 16 3 = p80 := by
  obtain ⟨h1, h2, h3, h4⟩ := hm_read (k := 16) (e := 3) (p := p80) (.inl rfl) (by decide) p80_ok (by decide)
  have e : rdE (hmT 16 3 p80) 16 3 = 0 := by rw [rdE, if_neg (by simp [h1]), if_neg (by simp [h2]), if_neg (by simp [h3])]
  exact ⟨e, by rw [rdQ, if_pos e, h4]⟩
theorem p80_17 : rdE (hmT 17 3 p80) 17 3 = 0 ∧ rdQ (hmT 17 3 p80) 17 3 = p80 := by
  obtain ⟨h1, h2, h3, h4⟩ := hm_read (k := 17) (e := 3) (p := p80) (.inr rfl) (by decide) p80_ok (by decide)
  have e : rdE (hmT 17 3 p80) 17 3 = 0 := by rw [rdE, if_neg (by simp [h1]), if_neg (by simp [h2]), if_neg (by simp [h3])]
  exact ⟨e, by rw [rdQ, if_pos e, h4]⟩
theorem gave80 : gaveL [p80] = [p80] := by decide
theorem msg80 : msgN ⟨3, [p80]⟩ 0 = hmT 16 3 p80 := rfl
theorem tk80 : tkE ⟨3, []⟩ (hmT 16 3 p80) = 0 ∧ tkP ⟨3, []⟩ (hmT 16 3 p80) = p80 ∧ tkS ⟨3, []⟩ (hmT 16 3 p80) = hmT 17 3 p80 := by
  obtain ⟨h1, h2⟩ := p80_16
  obtain ⟨k0, k1, k2, k3⟩ := tk_new (g := ⟨3, []⟩) (s := hmT 16 3 p80) h1 (by rw [h2]; rfl)
  exact ⟨k0, k2.trans h2, k3.trans (by rw [h2])⟩
theorem gt80 : gtE ⟨3, [p80]⟩ (hmT 17 3 p80) = 0 ∧ gtG ⟨3, [p80]⟩ (hmT 17 3 p80) = ⟨3, []⟩ := by
  obtain ⟨h1, h2⟩ := p80_17
  refine ⟨h1, ?_⟩
  rw [gtG, if_pos (show gtE ⟨3, [p80]⟩ (hmT 17 3 p80) = 0 from h1), gtQ, show rdQ (hmT 17 3 p80) 17 (Gv.e ⟨3, [p80]⟩) = p80 from h2]
  rfl
theorem hm_len {k e : Int} {p : Pl} : (hmT k e p).length ≤ 900 := by
  unfold hmT byT
  split
  · rw [markL_length, headT_length]
    have : (plB p).length = 6 := by simp [plB]
    omega
  · simp
theorem awake26_ac : ACalls Tryz.prog 84 [] (.bool true) := by
  refine acalls_L (T := tt) (S := fun L => aw26_s L) (lo := noA) (lb := noA) 5 (fn := Tryz.f84) rfl rfl (by kernel_rfl) (by kernel_rfl) rfl tt_ok (sumOf_ok ⟨give_good, msgs_good, ttake_good, gtake_good, done_good, tru_good Awake04_ac, tru_good Awake08_ac, tru_good Awake25_ac, trivial⟩) (by kernel_rfl) ?_
  intro L P' Q' hL hP hQ
  have h0 : L rdWPl (.lst 5 1 (fun i j => lget .dead [.int .u8 0, .int .u8 0, .int .u8 0, .int .u8 0, .int .u16 80] (L2 L Nat.add 0 i * 5 + j))) = [p80] := by subst hL; rfl
  have h0o : L okWPl (.lst 5 1 (fun i j => lget .dead [.int .u8 0, .int .u8 0, .int .u8 0, .int .u8 0, .int .u16 80] (L2 L Nat.add 0 i * 5 + j))) := by
    subst hL
    refine ⟨rfl, fun i hi => ?_⟩
    obtain rfl : i = 0 := by omega
    exact ⟨⟨_, rfl⟩, ⟨_, rfl⟩, ⟨_, rfl⟩, ⟨_, rfl⟩, ⟨_, rfl⟩⟩
  have hG : ∀ (e : Int) (y : List Pl), L rdGGv (.agg [.int .u64 e, .lst 5 (L lenW y) (fun i => plC L (L (L nthPl y) i))]) = ⟨e, y⟩ := by subst hL; exact fun e y => rdgGv ⟨e, y⟩
  have hO : ∀ (e : Int) (y : List Pl), L okGGv (.agg [.int .u64 e, .lst 5 (L lenW y) (fun i => plC L (L (L nthPl y) i))]) := by subst hL; exact fun e y => okgGv ⟨e, y⟩
  have hGn : ∀ (e : Int), L rdGGv (.agg [.int .u64 e, .nils]) = ⟨e, []⟩ := by subst hL; intro e; rfl
  have hOn : ∀ (e : Int), L okGGv (.agg [.int .u64 e, .nils]) := by subst hL; exact fun e => ⟨rfl, ⟨_, rfl⟩, trivial⟩
  have hn : L rdWPl .nils = [] := by subst hL; rfl
  have hno : L okWPl .nils := by subst hL; exact trivial
  have g80 : L gaveL [p80] = [p80] := by subst hL; exact gave80
  have g0 : L gaveL [] = [] := by subst hL; rfl
  have t0 : L Int.toNat 0 = 0 := by subst hL; rfl
  have m80 : L (L msgN ⟨3, [p80]⟩) 0 = hmT 16 3 p80 := by subst hL; exact msg80
  have k1 : L (L tkE ⟨3, []⟩) (hmT 16 3 p80) = 0 := by subst hL; exact tk80.1
  have k2 : L (L tkP ⟨3, []⟩) (hmT 16 3 p80) = p80 := by subst hL; exact tk80.2.1
  have k3 : L (L tkS ⟨3, []⟩) (hmT 16 3 p80) = hmT 17 3 p80 := by subst hL; exact tk80.2.2
  have k4 : L (L gtE ⟨3, [p80]⟩) (hmT 17 3 p80) = 0 := by subst hL; exact gt80.1
  have k5 : L (L gtG ⟨3, [p80]⟩) (hmT 17 3 p80) = ⟨3, []⟩ := by subst hL; exact gt80.2
  (cbv; try simp only [sat_need, sat_must, sat_ite, sat_done, sat_yes, sat_ex, sat_all, sat_sup, sat_and, sat_fail, true_and, and_true])
  simp only [h0, h0o, g80, hG, hO, hGn, hOn, hn, hno, g0, t0, m80, k1, k2, k3, k4, k5]
  subst hQ; subst hL
  refine ⟨⟨trivial, by show (1 : Nat) ≤ 1000000; omega, ?_⟩, ⟨trivial, ?_⟩, rfl, ⟨trivial, ?_, ?_⟩, ⟨trivial, ?_, ?_⟩, fun _ => ⟨fun _ => ⟨fun _ => ⟨⟨trivial, by show (0 : Nat) ≤ 1000000; omega, ?_⟩, trivial, fun _ => ⟨fun _ => ⟨fun _ => ⟨fun _ => ⟨trivial, ?_⟩, fun h => by cases h⟩, fun h => by cases h⟩, fun h => by cases h⟩, fun h => by cases h⟩, fun h => by cases h⟩, fun h => by cases h⟩, fun h => by cases h⟩
  · intro x hx
    rw [List.mem_singleton.1 hx]; exact p80_ok
  · exact ⟨by decide, (fun x hx => by rw [List.mem_singleton.1 hx]; exact p80_ok), by show (1 : Nat) ≤ 1000000; omega⟩
  · exact ⟨by decide, okP_nil, by show (0 : Nat) ≤ 1000000; omega⟩
  · show _ ≤ 900000
    have := hm_len (k := 16) (e := 3) (p := p80)
    omega
  · exact ⟨by decide, ⟨(fun x hx => by rw [List.mem_singleton.1 hx]; exact p80_ok), List.pairwise_singleton _ _⟩, by show (1 : Nat) ≤ 1000000; omega⟩
  · show _ ≤ 900000
    have := hm_len (k := 17) (e := 3) (p := p80)
    omega
  · intro x hx
    simp at hx
  · exact (fits_bool _ _).mpr rfl
def aw26b_s (L : Seal) : Sums := sumOf [give_s L, msgs_s L, tru 84]
theorem Awake26_ac : ACalls Tryz.prog 25 [] (.bool true) := by
  refine acalls_L (T := tt) (S := fun L => aw26b_s L) (lo := noA) (lb := noA) 5 (fn := Tryz.f25) rfl rfl (by kernel_rfl) (by kernel_rfl) rfl tt_ok (sumOf_ok ⟨give_good, msgs_good, tru_good awake26_ac, trivial⟩) (by kernel_rfl) ?_
  intro L P' Q' hL hP hQ
  have h0 : L rdWPl (.lst 5 1 (fun i j => lget .dead [.int .u8 0, .int .u8 0, .int .u8 0, .int .u8 0, .int .u16 80] (L2 L Nat.add 0 i * 5 + j))) = [p80] := by subst hL; rfl
  have h0o : L okWPl (.lst 5 1 (fun i j => lget .dead [.int .u8 0, .int .u8 0, .int .u8 0, .int .u8 0, .int .u16 80] (L2 L Nat.add 0 i * 5 + j))) := by
    subst hL
    refine ⟨rfl, fun i hi => ?_⟩
    obtain rfl : i = 0 := by omega
    exact ⟨⟨_, rfl⟩, ⟨_, rfl⟩, ⟨_, rfl⟩, ⟨_, rfl⟩, ⟨_, rfl⟩⟩
  have hG : ∀ (e : Int) (y : List Pl), L rdGGv (.agg [.int .u64 e, .lst 5 (L lenW y) (fun i => plC L (L (L nthPl y) i))]) = ⟨e, y⟩ := by subst hL; exact fun e y => rdgGv ⟨e, y⟩
  have hO : ∀ (e : Int) (y : List Pl), L okGGv (.agg [.int .u64 e, .lst 5 (L lenW y) (fun i => plC L (L (L nthPl y) i))]) := by subst hL; exact fun e y => okgGv ⟨e, y⟩
  have g80 : L gaveL [p80] = [p80] := by subst hL; exact gave80
  (cbv; try simp only [sat_need, sat_must, sat_ite, sat_done, sat_yes, sat_ex, sat_all, sat_sup, sat_and, sat_fail, true_and, and_true])
  simp only [h0, h0o, g80, hG, hO]
  subst hQ; subst hL
  refine ⟨⟨trivial, by show (1 : Nat) ≤ 1000000; omega, ?_⟩, ⟨trivial, ?_⟩, fun _ => (fits_bool _ _).mpr rfl, fun h => by cases h⟩
  · intro x hx
    rw [List.mem_singleton.1 hx]; exact p80_ok
  · exact ⟨by decide, (fun x hx => by rw [List.mem_singleton.1 hx]; exact p80_ok), by show (1 : Nat) ≤ 1000000; omega⟩
end Sy
end Go.Proofs.YtckbbcjbbmgmoaaGreatDoor
namespace Go.Proofs.YtckbbcjbbmgmoaaGreatDoor
namespace Sy
open Go Go.RowKit
set_option maxRecDepth 100000
set_option linter.unusedSimpArgs false
set_option linter.unusedVariables false
theorem lst_fit {l m : List Pl} (h : l = m) : fits1 (lstPl std l) (.lst 5 (lenW m) (fun i => plC std (nthPl m i))) := by
  subst h
  show fits1 (.lst 5 (lenW l) (fun i => plC std (nthPl l i))) _
  rw [fits1_lst]
  exact ⟨rfl, fun _ _ _ _ => rfl⟩
theorem rd_no {s : List UInt8} {e : Int} (k : Int) (h : hrK s = 0) : rdE s k e = 4 := by
  rw [rdE, if_pos]
  intro h2
  exact hr_kind.1 h2 h
theorem rd_kind {s : List UInt8} {e k : Int} (h : ¬ hrK s = 0) (h2 : ¬ hrK s = k) : rdE s k e = 10 := by
  rw [rdE, if_neg (by simp [hr_kind.2 h]), if_pos h2]
theorem rd_ep {s : List UInt8} {e k : Int} (h : ¬ hrK s = 0) (h2 : hrK s = k) (h3 : ¬ hrP s = e) : rdE s k e = 18 := by
  rw [rdE, if_neg (by simp [hr_kind.2 h]), if_neg (by simp [h2]), if_pos h3]
theorem rd_yes {s : List UInt8} {e k : Int} (h : ¬ hrK s = 0) (h2 : hrK s = k) (h3 : hrP s = e) : rdE s k e = 0 ∧ rdQ s k e = hrL s := by
  have h4 : rdE s k e = 0 := by rw [rdE, if_neg (by simp [hr_kind.2 h]), if_neg (by simp [h2]), if_neg (by simp [h3])]
  exact ⟨h4, by rw [rdQ, if_pos h4]⟩
theorem to_bad {e : Int} {l : List Pl} {s : List UInt8} {c : Int} (hc : ¬ c = 0) (h : rdE s 16 e = c) : toE e l s = c ∧ toL e l s = l ∧ toP e l s = pl0 ∧ toM e l s = [] := by
  obtain ⟨k0, k1, k2, k3⟩ := tk_bad (g := ⟨e, l⟩) (s := s) (by show ¬ rdE s 16 e = 0; rw [h]; exact hc)
  exact ⟨k0.trans h, congrArg Gv.l k1, k2, k3⟩
theorem to_old {e : Int} {l : List Pl} {s : List UInt8} (h : rdE s 16 e = 0) (h3 : rdQ s 16 e = hrL s) (h2 : hasP l (hrL s) = true) : toE e l s = 11 ∧ toL e l s = l ∧ toP e l s = pl0 ∧ toM e l s = hmT 17 e (hrL s) := by
  obtain ⟨k0, k1, k2, k3⟩ := tk_old (g := ⟨e, l⟩) (s := s) h (by show (!hasP l (rdQ s 16 e)) = false; rw [h3, h2]; rfl)
  exact ⟨k0, congrArg Gv.l k1, k2, k3.trans (by rw [show rdQ s 16 (Gv.e ⟨e, l⟩) = hrL s from h3])⟩
theorem to_new {e : Int} {l : List Pl} {s : List UInt8} (h : rdE s 16 e = 0) (h3 : rdQ s 16 e = hrL s) (h2 : hasP l (hrL s) = false) : toE e l s = 0 ∧ toL e l s = putL l (hrL s) ∧ toP e l s = hrL s ∧ toM e l s = hmT 17 e (hrL s) := by
  obtain ⟨k0, k1, k2, k3⟩ := tk_new (g := ⟨e, l⟩) (s := s) h (by show (!hasP l (rdQ s 16 e)) = true; rw [h3, h2]; rfl)
  refine ⟨k0, ?_, k2.trans h3, k3.trans (by rw [show rdQ s 16 (Gv.e ⟨e, l⟩) = hrL s from h3])⟩
  rw [← with_put h2]
  exact (congrArg Gv.l k1).trans (by rw [show rdQ s 16 (Gv.e ⟨e, l⟩) = hrL s from h3])
theorem token_ok : Good Tryz.prog (token_s std) := by
  intro xs p r h hp
  dsimp only [token_s] at h ⊢
  split at h <;> cases h
  try simp only [L2, L3, std] at hp ⊢
  rename_i e x s
  obtain ⟨he, ho, hz, hok, hs⟩ := hp
  refine ac_w2 plV_ok ho ?_
  have he : 0 ≤ e ∧ e < 18446744073709551616 := he
  have hz : lenE (rdWPl x) := hz
  have hok : OkP (rdWPl x) := hok
  have hs : s.length ≤ 900000 := hs
  show ACalls _ _ (_ :: lstW std plV (rdWPl x) :: _) (.tup [lstPl std (toL e (rdWPl x) s), plA std (toP e (rdWPl x) s), .str (toM e (rdWPl x) s), .int .i64 (toE e (rdWPl x) s)])
  generalize rdWPl x = l at hz hok ⊢
  have hz : l.length ≤ 1000000 := hz
  refine acalls_L' (T := tt) (S := fun L => sumOf [rread_s L, has_s L, put4_s L, hm_s 29 L]) (lo := fun L => noA L) (lb := noA) 5 (fn := Tryz.f35) (xs := fun L => [.int .u64 e, lstPl L l, .str s]) rfl rfl (by kernel_rfl) (by kernel_rfl) rfl tt_ok (sumOf_ok ⟨rread_good, has_good, put4_good, rhm_good, trivial⟩) (by kernel_rfl) ?_
  intro L P' Q' hL hP hQ
  have hG : ∀ y : List Pl, L rdWPl (.lst 5 (L lenW y) (fun i => plC L (L (L nthPl y) i))) = y := by subst hL; exact fun y => rdwPl y
  have hO : ∀ y : List Pl, L okWPl (.lst 5 (L lenW y) (fun i => plC L (L (L nthPl y) i))) := by subst hL; exact fun y => okwPl y
  have hE : ∀ y : Pl, L (L (L (L (L Pl.mk (L Pl.a y)) (L Pl.b y)) (L Pl.c y)) (L Pl.d y)) (L Pl.p y) = y := by subst hL; intro y; rfl
  have hE2 : ∀ y : Pl, mkPl L (L Pl.a y) (L Pl.b y) (L Pl.c y) (L Pl.d y) (L Pl.p y) = y := by subst hL; intro y; rfl
  (cbv; try simp only [sat_need, sat_must, sat_ite, sat_done, sat_yes, sat_ex, sat_all, sat_sup, sat_and, sat_fail, true_and, and_true])
  simp only [hE, hG, hE2]
  have hpo := hrL_ok s
  refine ⟨?_, fun h1 => ?_, fun h1 => ⟨fun h2 => ?_, fun h2 => ⟨fun h3 => ?_, fun h3 => ⟨⟨hO _, ?_⟩, fun h4 => ⟨?_, ?_⟩, fun h4 => ⟨⟨hO _, ?_, ?_, ?_⟩, ?_, ?_⟩⟩⟩⟩⟩
  · (subst hL; subst hQ; simp only [L2, L3, std] at *; try simp only [sySet, reduceCtorEq, forall_const, Int.reduceToNat, Int.reduceAdd, Int.reduceSub, Int.cast_ofNat_Int, Int.toNat_natCast, Nat.le_eq, Nat.sub_eq, ne_eq, Decidable.not_not, implies_true, true_and, and_true, wadd, wsub, wmul, decide_eq_true_eq, decide_eq_false_iff_not, Nat.succ_eq_add_one, imp_false, not_false_eq_true, not_true_eq_false, false_imp_iff, true_imp_iff] at *)
    exact hs
  · (subst hL; subst hQ; simp only [L2, L3, std] at *; try simp only [sySet, reduceCtorEq, forall_const, Int.reduceToNat, Int.reduceAdd, Int.reduceSub, Int.cast_ofNat_Int, Int.toNat_natCast, Nat.le_eq, Nat.sub_eq, ne_eq, Decidable.not_not, implies_true, true_and, and_true, wadd, wsub, wmul, decide_eq_true_eq, decide_eq_false_iff_not, Nat.succ_eq_add_one, imp_false, not_false_eq_true, not_true_eq_false, false_imp_iff, true_imp_iff] at *)
    obtain ⟨k0, k1, k2, k3⟩ := to_bad (e := e) (l := l) (s := s) (c := 4) (by decide) (rd_no 16 h1)
    exact ⟨lst_fit k1, pl_fit k2, k3.symm, k0.symm⟩
  · (subst hL; subst hQ; simp only [L2, L3, std] at *; try simp only [sySet, reduceCtorEq, forall_const, Int.reduceToNat, Int.reduceAdd, Int.reduceSub, Int.cast_ofNat_Int, Int.toNat_natCast, Nat.le_eq, Nat.sub_eq, ne_eq, Decidable.not_not, implies_true, true_and, and_true, wadd, wsub, wmul, decide_eq_true_eq, decide_eq_false_iff_not, Nat.succ_eq_add_one, imp_false, not_false_eq_true, not_true_eq_false, false_imp_iff, true_imp_iff] at *)
    obtain ⟨k0, k1, k2, k3⟩ := to_bad (e := e) (l := l) (s := s) (c := 10) (by decide) (rd_kind h1 h2)
    exact ⟨lst_fit k1, pl_fit k2, k3.symm, k0.symm⟩
  · (subst hL; subst hQ; simp only [L2, L3, std] at *; try simp only [sySet, reduceCtorEq, forall_const, Int.reduceToNat, Int.reduceAdd, Int.reduceSub, Int.cast_ofNat_Int, Int.toNat_natCast, Nat.le_eq, Nat.sub_eq, ne_eq, Decidable.not_not, implies_true, true_and, and_true, wadd, wsub, wmul, decide_eq_true_eq, decide_eq_false_iff_not, Nat.succ_eq_add_one, imp_false, not_false_eq_true, not_true_eq_false, false_imp_iff, true_imp_iff] at *)
    obtain ⟨k0, k1, k2, k3⟩ := to_bad (e := e) (l := l) (s := s) (c := 18) (by decide) (rd_ep h1 h2 h3)
    exact ⟨lst_fit k1, pl_fit k2, k3.symm, k0.symm⟩
  · subst hL; exact hz
  · subst hL; exact ⟨he, hpo⟩
  · (subst hL; subst hQ; simp only [L2, L3, std] at *; try simp only [sySet, reduceCtorEq, forall_const, Int.reduceToNat, Int.reduceAdd, Int.reduceSub, Int.cast_ofNat_Int, Int.toNat_natCast, Nat.le_eq, Nat.sub_eq, ne_eq, Decidable.not_not, implies_true, true_and, and_true, wadd, wsub, wmul, decide_eq_true_eq, decide_eq_false_iff_not, Nat.succ_eq_add_one, imp_false, not_false_eq_true, not_true_eq_false, false_imp_iff, true_imp_iff] at *)
    obtain ⟨h5, h6⟩ := rd_yes h1 h2 h3
    obtain ⟨k0, k1, k2, k3⟩ := to_old (e := e) (l := l) h5 h6 h4
    exact ⟨lst_fit k1, pl_fit k2, k3.symm, k0.symm⟩
  · subst hL; exact hz
  · subst hL; exact hok.ok
  · subst hL; exact hpo
  · subst hL; exact ⟨he, hpo⟩
  · (subst hL; subst hQ; simp only [L2, L3, std] at *; try simp only [sySet, reduceCtorEq, forall_const, Int.reduceToNat, Int.reduceAdd, Int.reduceSub, Int.cast_ofNat_Int, Int.toNat_natCast, Nat.le_eq, Nat.sub_eq, ne_eq, Decidable.not_not, implies_true, true_and, and_true, wadd, wsub, wmul, decide_eq_true_eq, decide_eq_false_iff_not, Nat.succ_eq_add_one, imp_false, not_false_eq_true, not_true_eq_false, false_imp_iff, true_imp_iff] at *)
    obtain ⟨h5, h6⟩ := rd_yes h1 h2 h3
    obtain ⟨k0, k1, k2, k3⟩ := to_new (e := e) (l := l) h5 h6 h4
    exact ⟨lst_fit k1, pl_fit k2, k3.symm, k0.symm⟩
def taE (e : Int) (l : List Pl) (s : List UInt8) : Int := gtE ⟨e, l⟩ s
def taL (e : Int) (l : List Pl) (s : List UInt8) : List Pl := Gv.l (gtG ⟨e, l⟩ s)
def taken_s (L : Seal) : Ent1 := (38, fun xs => match xs with
  | [.int .u64 e, x, .str s] => some (L okWPl x ∧ L lenE (L rdWPl x) ∧ L2 L upto 900000 s, .tup [lstPl L (L3 L taL e (L rdWPl x) s), .int .i64 (L3 L taE e (L rdWPl x) s)])
  | _ => none)
theorem taken_ok : Good Tryz.prog (taken_s std) := by
  intro xs p r h hp
  dsimp only [taken_s] at h ⊢
  split at h <;> cases h
  try simp only [L2, L3, std] at hp ⊢
  rename_i e x s
  obtain ⟨ho, hz, hs⟩ := hp
  refine ac_w2 plV_ok ho ?_
  have hz : lenE (rdWPl x) := hz
  have hs : s.length ≤ 900000 := hs
  show ACalls _ _ (_ :: lstW std plV (rdWPl x) :: _) (.tup [lstPl std (taL e (rdWPl x) s), .int .i64 (taE e (rdWPl x) s)])
  generalize rdWPl x = l at hz ⊢
  have hz : l.length ≤ 1000000 := hz
  refine acalls_L' (T := tt) (S := fun L => sumOf [rread_s L, drop_s L]) (lo := fun L => noA L) (lb := noA) 5 (fn := Tryz.f38) (xs := fun L => [.int .u64 e, lstPl L l, .str s]) rfl rfl (by kernel_rfl) (by kernel_rfl) rfl tt_ok (sumOf_ok ⟨rread_good, drop_good, trivial⟩) (by kernel_rfl) ?_
  intro L P' Q' hL hP hQ
  have hG : ∀ y : List Pl, L rdWPl (.lst 5 (L lenW y) (fun i => plC L (L (L nthPl y) i))) = y := by subst hL; exact fun y => rdwPl y
  have hO : ∀ y : List Pl, L okWPl (.lst 5 (L lenW y) (fun i => plC L (L (L nthPl y) i))) := by subst hL; exact fun y => okwPl y
  have hE : ∀ y : Pl, L (L (L (L (L Pl.mk (L Pl.a y)) (L Pl.b y)) (L Pl.c y)) (L Pl.d y)) (L Pl.p y) = y := by subst hL; intro y; rfl
  have hE2 : ∀ y : Pl, mkPl L (L Pl.a y) (L Pl.b y) (L Pl.c y) (L Pl.d y) (L Pl.p y) = y := by subst hL; intro y; rfl
  have bad : ∀ c, ¬ c = 0 → rdE s 17 e = c → taE e l s = c ∧ taL e l s = l := fun c hc h => ⟨h, by rw [taL, gtG, if_neg (by show ¬ rdE s 17 e = 0; rw [h]; exact hc)]⟩
  (cbv; try simp only [sat_need, sat_must, sat_ite, sat_done, sat_yes, sat_ex, sat_all, sat_sup, sat_and, sat_fail, true_and, and_true])
  simp only [hE, hG, hE2]
  refine ⟨?_, fun h1 => ?_, fun h1 => ⟨fun h2 => ?_, fun h2 => ⟨fun h3 => ?_, fun h3 => ⟨⟨hO _, ?_⟩, ?_⟩⟩⟩⟩
  · (subst hL; subst hQ; simp only [L2, L3, std] at *; try simp only [sySet, reduceCtorEq, forall_const, Int.reduceToNat, Int.reduceAdd, Int.reduceSub, Int.cast_ofNat_Int, Int.toNat_natCast, Nat.le_eq, Nat.sub_eq, ne_eq, Decidable.not_not, implies_true, true_and, and_true, wadd, wsub, wmul, decide_eq_true_eq, decide_eq_false_iff_not, Nat.succ_eq_add_one, imp_false, not_false_eq_true, not_true_eq_false, false_imp_iff, true_imp_iff] at *)
    exact hs
  · (subst hL; subst hQ; simp only [L2, L3, std] at *; try simp only [sySet, reduceCtorEq, forall_const, Int.reduceToNat, Int.reduceAdd, Int.reduceSub, Int.cast_ofNat_Int, Int.toNat_natCast, Nat.le_eq, Nat.sub_eq, ne_eq, Decidable.not_not, implies_true, true_and, and_true, wadd, wsub, wmul, decide_eq_true_eq, decide_eq_false_iff_not, Nat.succ_eq_add_one, imp_false, not_false_eq_true, not_true_eq_false, false_imp_iff, true_imp_iff] at *)
    obtain ⟨k0, k1⟩ := bad 4 (by decide) (rd_no 17 h1)
    exact ⟨lst_fit k1, k0.symm⟩
  · (subst hL; subst hQ; simp only [L2, L3, std] at *; try simp only [sySet, reduceCtorEq, forall_const, Int.reduceToNat, Int.reduceAdd, Int.reduceSub, Int.cast_ofNat_Int, Int.toNat_natCast, Nat.le_eq, Nat.sub_eq, ne_eq, Decidable.not_not, implies_true, true_and, and_true, wadd, wsub, wmul, decide_eq_true_eq, decide_eq_false_iff_not, Nat.succ_eq_add_one, imp_false, not_false_eq_true, not_true_eq_false, false_imp_iff, true_imp_iff] at *)
    obtain ⟨k0, k1⟩ := bad 10 (by decide) (rd_kind h1 h2)
    exact ⟨lst_fit k1, k0.symm⟩
  · (subst hL; subst hQ; simp only [L2, L3, std] at *; try simp only [sySet, reduceCtorEq, forall_const, Int.reduceToNat, Int.reduceAdd, Int.reduceSub, Int.cast_ofNat_Int, Int.toNat_natCast, Nat.le_eq, Nat.sub_eq, ne_eq, Decidable.not_not, implies_true, true_and, and_true, wadd, wsub, wmul, decide_eq_true_eq, decide_eq_false_iff_not, Nat.succ_eq_add_one, imp_false, not_false_eq_true, not_true_eq_false, false_imp_iff, true_imp_iff] at *)
    obtain ⟨k0, k1⟩ := bad 18 (by decide) (rd_ep h1 h2 h3)
    exact ⟨lst_fit k1, k0.symm⟩
  · subst hL; exact hz
  · (subst hL; subst hQ; simp only [L2, L3, std] at *; try simp only [sySet, reduceCtorEq, forall_const, Int.reduceToNat, Int.reduceAdd, Int.reduceSub, Int.cast_ofNat_Int, Int.toNat_natCast, Nat.le_eq, Nat.sub_eq, ne_eq, Decidable.not_not, implies_true, true_and, and_true, wadd, wsub, wmul, decide_eq_true_eq, decide_eq_false_iff_not, Nat.succ_eq_add_one, imp_false, not_false_eq_true, not_true_eq_false, false_imp_iff, true_imp_iff] at *)
    obtain ⟨h5, h6⟩ := rd_yes h1 h2 h3
    refine ⟨lst_fit ?_, h5.symm⟩
    rw [taL, gtG, if_pos (show gtE ⟨e, l⟩ s = 0 from h5), gtQ, show rdQ s 17 (Gv.e ⟨e, l⟩) = hrL s from h6]
end Sy
end Go.Proofs.YtckbbcjbbmgmoaaGreatDoor
namespace Go.Proofs.YtckbbcjbbmgmoaaGreatDoor
namespace Sy
open Go Go.RowKit
set_option maxRecDepth 100000
set_option linter.unusedSimpArgs false
set_option linter.unusedVariables false
structure Py where
  g : Gv
  t : Gv
  i : Nat
def giv (e : Int) (l : List Pl) : Gv := ⟨e, gaveL l⟩
/-- The messages played: the giver's own, then the given. -/
def plN (a : Int) (l : List Pl) (s : List (List UInt8)) (i : Nat) : List UInt8 := if i < (gaveL l).length then msgN (giv a l) i else nthS s (i - (gaveL l).length)
def plM (l : List Pl) (s : List (List UInt8)) : Nat := (gaveL l).length + s.length
def gvB (L : Seal) (t : Nat) (g : Gv) : Ob := .box t [.int .u64 (L Gv.e g), lstPl L (L Gv.l g)]
structure pyInv (a b : Int) (l : List Pl) (s : List (List UInt8)) (x : Py) : Prop where
  ge : x.g.e = a
  te : x.t.e = b
  gk : OkP x.g.l
  tk : OkP x.t.l
  gl : x.g.l.length ≤ 20
  tl : x.t.l.length ≤ x.i
  ii : x.i ≤ plM l s
def pyMu (l : List Pl) (s : List (List UInt8)) (x : Py) : Nat := plM l s - x.i
structure Pz where
  g : Gv
  i : Nat
structure pzInv (a : Int) (x : Pz) : Prop where
  ge : x.g.e = a
  gk : OkP x.g.l
  gl : x.g.l.length ≤ 20
  ii : x.i ≤ 2
def pzMu (x : Pz) : Nat := 2 - x.i
def two2 (m s : List UInt8) (q : Nat) : List UInt8 := if q = 0 then m else s
theorem tkS_len {g : Gv} {s : List UInt8} : (tkS g s).length ≤ 900 := by
  unfold tkS
  split
  · exact hm_len
  · simp
theorem tkG_ok {g : Gv} {s : List UInt8} (h : gvOk g) : (tkG g s).e = g.e ∧ OkP (tkG g s).l ∧ (tkG g s).l.length ≤ g.l.length + 1 := by
  unfold tkG
  split
  · exact ⟨rfl, okP_with (rdQ_ok s 16 g.e) h.2.1, with_len⟩
  · exact ⟨rfl, h.2.1, by omega⟩
theorem gtG_ok {g : Gv} {s : List UInt8} (h : gvOk g) : (gtG g s).e = g.e ∧ OkP (gtG g s).l ∧ (gtG g s).l.length ≤ g.l.length := by
  unfold gtG
  split
  · exact ⟨rfl, okP_drop h.2.1, List.length_filter_le _ _⟩
  · exact ⟨rfl, h.2.1, by omega⟩
theorem done_len {e : Int} {l : List Pl} : doneG ⟨e, l⟩ = ieq (l.length : Int) 0 := by
  rw [Bool.eq_iff_iff, ieq_t]
  unfold doneG
  rw [decide_eq_true_eq]
  constructor
  · intro h; rw [show l = [] from h]; rfl
  · intro h; exact List.eq_nil_of_length_eq_zero (by have h2 : (l.length : Int) = 0 := h; show l.length = 0; omega)
def hpA (L : Seal) (a b : Int) (l : List Pl) (s : List (List UInt8)) : Nat → St → Option Ann := fun id st => match id with
  | 0 => some ⟨Py, fun x => [(54, .int .i64 (L natI (L Py.i x))), (52, .sl 900 1 0 (L2 L plM l s)), (9, .ref 9 0), (10, .ref 10 0), (11, lstPl L (L Gv.l (L Py.g x))), (12, lstPl L (L Gv.l (L Py.t x)))],
      fun x => [(900, .row 9 1 (L2 L plM l s) (fun i _ => .str (L (L3 L plN a l s) i))), (9, gvB L 80 (L Py.g x)), (10, gvB L 83 (L Py.t x))], [0, 1, 53], [], fun x => L (L (L (L (L pyInv a) b) l) s) x, fun x => L (L2 L pyMu l s) x⟩
  | 2 => withStr st 17 fun m => withStr st 14 fun m2 => some ⟨Pz, fun x => [(110, .int .i64 (L natI (L Pz.i x))), (108, .sl 108 1 0 2), (9, .ref 9 0), (11, lstPl L (L Gv.l (L Pz.g x)))],
      fun x => [(108, .row 9 1 2 (fun q _ => .str (L (L2 L two2 m m2) q))), (9, gvB L 80 (L Pz.g x))], [0, 1, 10, 12, 14, 17, 52, 53, 54, 109], [10, 900], fun x => L2 L pzInv a x, fun x => L pzMu x⟩
  | _ => none
def hp_s (L : Seal) : Sums := sumOf [tru 25, give_s L, rgive_s L, places_s L, msgs_s L, ttake_s L, token_s L, gtake_s L, taken_s L, same_s L, done_s L]
set_option maxHeartbeats 800000 in
theorem handoffPlays_ac (a b : Int) (l : List Pl) (s : List (List UInt8)) (ha : 0 ≤ a ∧ a < 18446744073709551616) (hb : 0 ≤ b ∧ b < 18446744073709551616) (hl : allP l) : ACalls Tryz.prog 8 [.int .u64 a, .int .u64 b, lstPl std l, lstS std s] (.bool true) := by
  refine acalls_L' (T := tt) (S := fun L => hp_s L) (lo := fun L => hpA L a b l s) (lb := noA) 5 (fn := Tryz.f8) (xs := fun L => [.int .u64 a, .int .u64 b, lstPl L l, lstS L s]) rfl rfl (by kernel_rfl) (by kernel_rfl) rfl tt_ok (sumOf_ok ⟨tru_good Awake26_ac, give_good, rgive_good, places_good, msgs_good, ttake_good, token_ok, gtake_good, taken_ok, same_good, done_good, trivial⟩) (by kernel_rfl) ?_
  intro L P' Q' hL hP hQ
  have hG : ∀ y : List Pl, L rdWPl (.lst 5 (L lenW y) (fun i => plC L (L (L nthPl y) i))) = y := by subst hL; exact fun y => rdwPl y
  have hO : ∀ y : List Pl, L okWPl (.lst 5 (L lenW y) (fun i => plC L (L (L nthPl y) i))) := by subst hL; exact fun y => okwPl y
  have hGG : ∀ (e : Int) (y : List Pl), L rdGGv (.agg [.int .u64 e, .lst 5 (L lenW y) (fun i => plC L (L (L nthPl y) i))]) = ⟨e, y⟩ := by subst hL; exact fun e y => rdgGv ⟨e, y⟩
  have hOG : ∀ (e : Int) (y : List Pl), L okGGv (.agg [.int .u64 e, .lst 5 (L lenW y) (fun i => plC L (L (L nthPl y) i))]) := by subst hL; exact fun e y => okgGv ⟨e, y⟩
  have hE : ∀ y : Pl, L (L (L (L (L Pl.mk (L Pl.a y)) (L Pl.b y)) (L Pl.c y)) (L Pl.d y)) (L Pl.p y) = y := by subst hL; intro y; rfl
  have hE2 : ∀ y : Pl, mkPl L (L Pl.a y) (L Pl.b y) (L Pl.c y) (L Pl.d y) (L Pl.p y) = y := by subst hL; intro y; rfl
  (cbv; try simp only [sat_need, sat_must, sat_ite, sat_done, sat_yes, sat_ex, sat_all, sat_sup, sat_and, sat_fail, true_and, and_true])
  try simp only [hE, hE2, hG, hO, hGG, hOG]
  have hlw : lenW l = l.length := rfl
  have hgl : (gaveL l).length ≤ l.length := by
    have := give_len (l := l) (g := [])
    simpa [gaveL] using this
  have hgk : OkP (gaveL l) := okP_give hl okP_nil
  have hgw : lenG ⟨a, gaveL l⟩ = (gaveL l).length := rfl
  refine ⟨fun h => ?_, fun _ => ⟨fun _ => ?_, fun h1 => ⟨fun _ => ?_, fun h2 => ?_⟩⟩⟩
  · subst hL; cases h
  · subst hQ; exact (fits_bool _ _).mpr rfl
  · subst hQ; exact (fits_bool _ _).mpr rfl
  have h1 : l.length ≤ 20 := by
    rw [hL] at h1
    have h : ilt 20 (l.length : Int) = false := h1
    rw [ilt_f] at h
    omega
  have h2 : s.length ≤ 20 := by
    rw [hL] at h2
    have h : ilt 20 (s.length : Int) = false := h2
    rw [ilt_f] at h
    omega
  have hsw : lenSt s = s.length := rfl
  obtain ⟨g0, hg0⟩ : ∃ g0, g0 = gaveL l := ⟨_, rfl⟩
  refine ⟨⟨trivial, ?_, ?_⟩, ⟨trivial, ?_⟩, ⟨trivial, ?_, ?_⟩, ⟨trivial, ?_⟩, ?_, ?_, ⟨⟨⟨a, g0⟩, ⟨b, []⟩, 0⟩, ?_⟩, fun x hx => ?_⟩
  · subst hL; show l.length ≤ 1000000; omega
  · subst hL; exact hl
  · subst hL; show l.length ≤ 1000000; omega
  · subst hL; show l.length ≤ 1000000; omega
  · subst hL; exact hl
  · subst hL; exact ⟨ha, hgk.ok, by show (gaveL l).length ≤ 1000000; omega⟩
  · (subst hL; subst hQ; simp only [L2, L3, std] at *; try simp only [sySet, reduceCtorEq, forall_const, Int.reduceToNat, Int.reduceAdd, Int.reduceSub, Int.cast_ofNat_Int, Int.toNat_natCast, Nat.le_eq, Nat.sub_eq, ne_eq, Decidable.not_not, implies_true, true_and, and_true, wadd, wsub, wmul, decide_eq_true_eq, decide_eq_false_iff_not, Nat.succ_eq_add_one, imp_false, not_false_eq_true, not_true_eq_false, false_imp_iff, true_imp_iff] at *)
    omega
  · (subst hL; subst hQ; simp only [L2, L3, std] at *; try simp only [sySet, reduceCtorEq, forall_const, Int.reduceToNat, Int.reduceAdd, Int.reduceSub, Int.cast_ofNat_Int, Int.toNat_natCast, Nat.le_eq, Nat.sub_eq, ne_eq, Decidable.not_not, implies_true, true_and, and_true, wadd, wsub, wmul, decide_eq_true_eq, decide_eq_false_iff_not, Nat.succ_eq_add_one, imp_false, not_false_eq_true, not_true_eq_false, false_imp_iff, true_imp_iff] at *)
    omega
  · (cbv; try simp only [sat_need, sat_must, sat_ite, sat_done, sat_yes, sat_ex, sat_all, sat_sup, sat_and, sat_fail, true_and, and_true])
    try simp only [hGG]
    (subst hL; subst hQ; simp only [L2, L3, std] at *; try simp only [sySet, reduceCtorEq, forall_const, Int.reduceToNat, Int.reduceAdd, Int.reduceSub, Int.cast_ofNat_Int, Int.toNat_natCast, Nat.le_eq, Nat.sub_eq, ne_eq, Decidable.not_not, implies_true, true_and, and_true, wadd, wsub, wmul, decide_eq_true_eq, decide_eq_false_iff_not, Nat.succ_eq_add_one, imp_false, not_false_eq_true, not_true_eq_false, false_imp_iff, true_imp_iff] at *)
    subst hg0
    refine ⟨rfl, ⟨rfl, fun _ _ _ _ => rfl⟩, ⟨rfl, fun i j hi hj => ?_⟩, rfl, ⟨rfl, fun _ _ _ _ => rfl⟩, rfl, ⟨rfl, rfl, hgk, okP_nil, by show (gaveL l).length ≤ 20; omega, Nat.le_refl _, Nat.zero_le _⟩⟩
    unfold plN
    by_cases hc : i < (gaveL l).length
    · rw [if_pos hc, show nblt i (lenG ⟨a, gaveL l⟩) = true from blt_t hc]; rfl
    · rw [if_neg hc, show nblt i (lenG ⟨a, gaveL l⟩) = false from blt_f hc]; rfl
  · have hx2 : pyInv a b l s x := by
      have h := hx
      rw [hL] at h
      exact h
    clear hx
    obtain ⟨⟨ge, gl⟩, ⟨te, tl⟩, i⟩ := x
    obtain ⟨xe, xt, xk, xk2, xl, xl2, xi⟩ := hx2
    obtain rfl : ge = a := xe
    obtain rfl : te = b := xt
    have xk : OkP gl := xk
    have xk2 : OkP tl := xk2
    have xl : gl.length ≤ 20 := xl
    have xl2 : tl.length ≤ i := xl2
    have xi : i ≤ (gaveL l).length + s.length := xi
    have hp1 : ∀ g t i, L Py.g ⟨g, t, i⟩ = g := by subst hL; intros; rfl
    have hp2 : ∀ g t i, L Py.t ⟨g, t, i⟩ = t := by subst hL; intros; rfl
    have hp3 : ∀ g t i, L Py.i ⟨g, t, i⟩ = i := by subst hL; intros; rfl
    have hg1 : ∀ e l, L Gv.e ⟨e, l⟩ = e := by subst hL; intros; rfl
    have hg2 : ∀ e l, L Gv.l ⟨e, l⟩ = l := by subst hL; intros; rfl
    (cbv; try simp only [sat_need, sat_must, sat_ite, sat_done, sat_yes, sat_ex, sat_all, sat_sup, sat_and, sat_fail, true_and, and_true])
    simp only [hp1, hp2, hp3, hg1, hg2, hGG, hOG]
    generalize hm : L (L3 L plN ge l s) (L (L Nat.add 0) (L Int.toNat (L natI i))) = m
    have e1 : L (L (L toE te) tl) m = L (L tkE ⟨te, tl⟩) m := by subst hL; rfl
    have e2 : L (L (L toP te) tl) m = L (L tkP ⟨te, tl⟩) m := by subst hL; rfl
    have e3 : L (L (L toM te) tl) m = L (L tkS ⟨te, tl⟩) m := by subst hL; rfl
    have e4 : L (L (L toL te) tl) m = L Gv.l (L (L tkG ⟨te, tl⟩) m) := by subst hL; rfl
    simp only [hG, hO, e1, e2, e3, e4]
    clear e1 e2 e3 e4
    have hok : gvOk ⟨te, tl⟩ := ⟨hb, xk2, by show tl.length ≤ 1000000; omega⟩
    obtain ⟨f1, f2, f3⟩ := tkG_ok (s := m) hok
    have f1' : (L (L tkG ⟨te, tl⟩) m).e = te := by subst hL; exact f1
    have f2' : OkP (L (L tkG ⟨te, tl⟩) m).l := by subst hL; exact f2
    have f3' : (L (L tkG ⟨te, tl⟩) m).l.length ≤ tl.length + 1 := by subst hL; exact f3
    clear f1 f2 f3
    have hg3 : L Gv.l (L (L tkG ⟨te, tl⟩) m) = (L (L tkG ⟨te, tl⟩) m).l := by subst hL; rfl
    have hg4 : L Gv.e (L (L tkG ⟨te, tl⟩) m) = (L (L tkG ⟨te, tl⟩) m).e := by subst hL; rfl
    simp only [hg3, hg4]
    clear hg3 hg4
    generalize L (L tkG ⟨te, tl⟩) m = t1 at f1' f2' f3' ⊢
    have f4 : (L (L tkS ⟨te, tl⟩) m).length ≤ 900 := by subst hL; exact tkS_len
    generalize h17 : L (L tkS ⟨te, tl⟩) m = m17 at f4 ⊢
    generalize L (L tkP ⟨te, tl⟩) m = q1
    generalize L (L tkE ⟨te, tl⟩) m = c1
    obtain ⟨t1e, t1l⟩ := t1
    obtain rfl : t1e = te := f1'
    have f2 : OkP t1l := f2'
    have f3 : t1l.length ≤ tl.length + 1 := f3'
    refine ⟨fun hlt => ⟨?_, fun _ => ?_, fun h3 => ⟨⟨trivial, ?_, ?_⟩, ⟨?_, trivial, ?_, ?_, ?_⟩, fun h => ?_, fun _ => ⟨fun h => ?_, fun _ => ⟨fun h => ?_, fun _ => ⟨⟨trivial, ?_, trivial, ?_⟩, fun h => ?_, fun _ => ⟨fun h => ?_, fun _ => ⟨⟨⟨⟨ge, gl⟩, 0⟩, ?_⟩, fun z hz => ?_⟩⟩⟩⟩⟩⟩⟩, fun hge => ?_⟩
    · (subst hL; subst hQ; simp only [L2, L3, std] at *; try simp only [sySet, reduceCtorEq, forall_const, Int.reduceToNat, Int.reduceAdd, Int.reduceSub, Int.cast_ofNat_Int, Int.toNat_natCast, Nat.le_eq, Nat.sub_eq, ne_eq, Decidable.not_not, implies_true, true_and, and_true, wadd, wsub, wmul, decide_eq_true_eq, decide_eq_false_iff_not, Nat.succ_eq_add_one, imp_false, not_false_eq_true, not_true_eq_false, false_imp_iff, true_imp_iff] at *)
      have hlt : (i : Int) < (plM l s : Int) := hlt
      exact ⟨by omega, hlt⟩
    · subst hQ; exact (fits_bool _ _).mpr rfl
    · subst hL; exact hok
    · subst hL
      have h3 : ilt 3000 (m.length : Int) = false := h3
      rw [ilt_f] at h3
      show m.length ≤ 900000
      omega
    · subst hL; exact hb
    · subst hL; show tl.length ≤ 1000000; omega
    · subst hL; exact xk2
    · subst hL
      have h3 : ilt 3000 (m.length : Int) = false := h3
      rw [ilt_f] at h3
      show m.length ≤ 900000
      omega
    · subst hL
      have h : ine c1 c1 = true := h
      rw [ine_t] at h
      exact absurd rfl h
    · subst hL
      have e2 := (eqP_ieq q1.a q1.b q1.c q1.d q1.p q1.a q1.b q1.c q1.d q1.p)
      have e3 : eqP ⟨q1.a, q1.b, q1.c, q1.d, q1.p⟩ ⟨q1.a, q1.b, q1.c, q1.d, q1.p⟩ = true := decide_eq_true rfl
      have e4 := congrArg not (e2.trans e3)
      exact absurd (h.symm.trans e4) (by decide)
    · subst hL
      have h : (!seq m17 m17) = true := h
      simp [seq] at h
    · subst hL; show t1l.length ≤ 1000000; omega
    · subst hL; show t1l.length ≤ 1000000; omega
    · subst hL
      have h : (!sameB t1l t1l) = true := h
      simp [sameB] at h
    · subst hL
      have h : ine t1e t1e = true := h
      rw [ine_t] at h
      exact absurd rfl h
    · (cbv; try simp only [sat_need, sat_must, sat_ite, sat_done, sat_yes, sat_ex, sat_all, sat_sup, sat_and, sat_fail, true_and, and_true])
      try simp only [hp2, hp3, hg1, hg2, hGG, hm, h17]
      (subst hL; subst hQ; simp only [L2, L3, std] at *; try simp only [sySet, reduceCtorEq, forall_const, Int.reduceToNat, Int.reduceAdd, Int.reduceSub, Int.cast_ofNat_Int, Int.toNat_natCast, Nat.le_eq, Nat.sub_eq, ne_eq, Decidable.not_not, implies_true, true_and, and_true, wadd, wsub, wmul, decide_eq_true_eq, decide_eq_false_iff_not, Nat.succ_eq_add_one, imp_false, not_false_eq_true, not_true_eq_false, false_imp_iff, true_imp_iff] at *)
      refine ⟨fun i j hi hj => ?_, ⟨rfl, xk, xl, Nat.zero_le _⟩⟩
      match i, hi with
      | 0, _ => rfl
      | 1, _ => rfl
    · have hz2 : pzInv ge z := by
        have h := hz
        rw [hL] at h
        exact h
      clear hz
      obtain ⟨⟨ze, zl⟩, i2⟩ := z
      obtain ⟨y1, y2, y3, y4⟩ := hz2
      obtain rfl : ze = ge := y1
      have y2 : OkP zl := y2
      have y3 : zl.length ≤ 20 := y3
      have y4 : i2 ≤ 2 := y4
      have hq1 : ∀ g i, L Pz.g ⟨g, i⟩ = g := by subst hL; intros; rfl
      have hq2 : ∀ g i, L Pz.i ⟨g, i⟩ = i := by subst hL; intros; rfl
      have h3' : m.length ≤ 3000 := by
        have h := h3
        rw [hL] at h
        have h : ilt 3000 (m.length : Int) = false := h
        rw [ilt_f] at h
        omega
      have hmz : (L (L2 L two2 m17 m) (L (L Nat.add 0) (L Int.toNat (L natI i2)))).length ≤ 900000 := by
        subst hL
        show (two2 m17 m (0 + i2)).length ≤ 900000
        unfold two2
        split <;> omega
      (cbv; try simp only [sat_need, sat_must, sat_ite, sat_done, sat_yes, sat_ex, sat_all, sat_sup, sat_and, sat_fail, true_and, and_true])
      simp only [hq1, hq2, hp2, hp3, hg1, hg2, hm, h17, hGG, hOG]
      generalize (L (L2 L two2 m17 m) (L (L Nat.add 0) (L Int.toNat (L natI i2)))) = mz at hmz ⊢
      have e1 : L (L (L taE ze) zl) mz = L (L gtE ⟨ze, zl⟩) mz := by subst hL; rfl
      have e4 : L (L (L taL ze) zl) mz = (L (L gtG ⟨ze, zl⟩) mz).l := by subst hL; rfl
      have hokz : gvOk ⟨ze, zl⟩ := ⟨ha, y2, by show zl.length ≤ 1000000; omega⟩
      obtain ⟨u1, u2, u3⟩ := gtG_ok (s := mz) hokz
      have u1' : (L (L gtG ⟨ze, zl⟩) mz).e = ze := by subst hL; exact u1
      have u2' : OkP (L (L gtG ⟨ze, zl⟩) mz).l := by subst hL; exact u2
      have u3' : (L (L gtG ⟨ze, zl⟩) mz).l.length ≤ zl.length := by subst hL; exact u3
      clear u1 u2 u3
      have hg3 : L Gv.l (L (L gtG ⟨ze, zl⟩) mz) = (L (L gtG ⟨ze, zl⟩) mz).l := by subst hL; rfl
      have hg4 : L Gv.e (L (L gtG ⟨ze, zl⟩) mz) = (L (L gtG ⟨ze, zl⟩) mz).e := by subst hL; rfl
      simp only [hG, hO, e1, e4, hg3, hg4]
      clear hg3 hg4 e1 e4
      generalize L (L gtG ⟨ze, zl⟩) mz = g1 at u1' u2' u3' ⊢
      generalize L (L gtE ⟨ze, zl⟩) mz = c2
      obtain ⟨g1e, g1l⟩ := g1
      obtain rfl : g1e = ze := u1'
      have u2 : OkP g1l := u2'
      have u3 : g1l.length ≤ zl.length := u3'
      refine ⟨fun hlt2 => ⟨?_, ⟨trivial, ?_, ?_⟩, ⟨trivial, ?_, ?_⟩, fun h => ?_, fun _ => ⟨⟨trivial, ?_, trivial, ?_⟩, fun h => ?_, fun _ => ⟨trivial, fun h => ?_, fun _ => ⟨⟨⟨g1e, g1l⟩, i2 + 1⟩, ?_⟩⟩⟩⟩, fun hge2 => ⟨⟨⟨g1e, zl⟩, ⟨t1e, t1l⟩, i + 1⟩, ?_⟩⟩
      · (subst hL; subst hQ; simp only [L2, L3, std] at *; try simp only [sySet, reduceCtorEq, forall_const, Int.reduceToNat, Int.reduceAdd, Int.reduceSub, Int.cast_ofNat_Int, Int.toNat_natCast, Nat.le_eq, Nat.sub_eq, ne_eq, Decidable.not_not, implies_true, true_and, and_true, wadd, wsub, wmul, decide_eq_true_eq, decide_eq_false_iff_not, Nat.succ_eq_add_one, imp_false, not_false_eq_true, not_true_eq_false, false_imp_iff, true_imp_iff] at *)
        have hlt2 : (i2 : Int) < 2 := hlt2
        exact ⟨by omega, hlt2⟩
      · subst hL; exact hokz
      · subst hL; exact hmz
      · subst hL; show zl.length ≤ 1000000; omega
      · subst hL; exact hmz
      · subst hL
        have h : ine c2 c2 = true := h
        rw [ine_t] at h
        exact absurd rfl h
      · subst hL; show g1l.length ≤ 1000000; omega
      · subst hL; show g1l.length ≤ 1000000; omega
      · subst hL
        have h : (!sameB g1l g1l) = true := h
        simp [sameB] at h
      · subst hL
        have h : (!beqB (doneG ⟨g1e, g1l⟩) (ieq (g1l.length : Int) 0)) = true := h
        rw [done_len, beqB_self] at h
        cases h
      · (cbv; try simp only [sat_need, sat_must, sat_ite, sat_done, sat_yes, sat_ex, sat_all, sat_sup, sat_and, sat_fail, true_and, and_true])
        try simp only [hq1, hq2, hp2, hp3, hg1, hg2, hGG, hm, h17]
        (subst hL; subst hQ; simp only [L2, L3, std] at *; try simp only [sySet, reduceCtorEq, forall_const, Int.reduceToNat, Int.reduceAdd, Int.reduceSub, Int.cast_ofNat_Int, Int.toNat_natCast, Nat.le_eq, Nat.sub_eq, ne_eq, Decidable.not_not, implies_true, true_and, and_true, wadd, wsub, wmul, decide_eq_true_eq, decide_eq_false_iff_not, Nat.succ_eq_add_one, imp_false, not_false_eq_true, not_true_eq_false, false_imp_iff, true_imp_iff] at *)
        have hlt2 : (i2 : Int) < 2 := hlt2
        exact ⟨wrap1 rfl (by omega), ⟨rfl, u2, by show g1l.length ≤ 20; omega, by show i2 + 1 ≤ 2; omega⟩, by show 2 - (i2 + 1) + 1 ≤ 2 - i2; omega⟩
      · (cbv; try simp only [sat_need, sat_must, sat_ite, sat_done, sat_yes, sat_ex, sat_all, sat_sup, sat_and, sat_fail, true_and, and_true])
        try simp only [hp1, hp2, hp3, hq1, hq2, hg1, hg2, hGG, hm, h17]
        (subst hL; subst hQ; simp only [L2, L3, std] at *; try simp only [sySet, reduceCtorEq, forall_const, Int.reduceToNat, Int.reduceAdd, Int.reduceSub, Int.cast_ofNat_Int, Int.toNat_natCast, Nat.le_eq, Nat.sub_eq, ne_eq, Decidable.not_not, implies_true, true_and, and_true, wadd, wsub, wmul, decide_eq_true_eq, decide_eq_false_iff_not, Nat.succ_eq_add_one, imp_false, not_false_eq_true, not_true_eq_false, false_imp_iff, true_imp_iff] at *)
        have hlt : (i : Int) < (plM l s : Int) := hlt
        have hpl : plM l s = (gaveL l).length + s.length := rfl
        exact ⟨wrap1 rfl (by omega), ⟨rfl, rfl, y2, f2, y3, by show t1l.length ≤ i + 1; omega, by show i + 1 ≤ plM l s; omega⟩, by show plM l s - (i + 1) + 1 ≤ plM l s - i; omega⟩
    · refine ⟨⟨trivial, ?_⟩, ?_⟩
      · subst hL; exact ⟨ha, xk.ok, by show gl.length ≤ 1000000; omega⟩
      · subst hQ; subst hL
        refine (fits_bool _ _).mpr ?_
        show ieq (gl.length : Int) (gl.length : Int) = true
        rw [ieq_t]
theorem avL_pl2 {l : List Pl} {i j : Nat} (hi : i < l.length) (hj : j < 5) : avL (plAt std) l i j = plC std (nthPl l i) j := by
  rw [nthPl_at hi, avL, List.getElem?_eq_getElem hi]
  match j, hj with
  | 0, _ => rfl
  | 1, _ => rfl
  | 2, _ => rfl
  | 3, _ => rfl
  | 4, _ => rfl
theorem avL_st {l : List (List UInt8)} {i j : Nat} (hi : i < l.length) (hj : j < 1) : avL (fun x (_ : Nat) => AV.str x) l i j = .str (nthS l i) := by
  rw [avL, List.getElem?_eq_getElem hi, nthS, List.getD_eq_getElem?_getD, List.getElem?_eq_getElem hi]; rfl
theorem law_HandoffPlays (a : Int) (ha : (Lit.int .u64 a).wf = true) (b : Int) (hb : (Lit.int .u64 b).wf = true) (l : List Pl) (hl : l.length ≤ maxLen ∧ ∀ y ∈ l, plOk y) (s : List (List UInt8)) (hs : s.length ≤ maxLen ∧ ∀ y ∈ s, y.length ≤ maxLen) : ACalls Tryz.prog 8 [.int .u64 a, .int .u64 b, .lst 5 l.length (avL (plAt std) l), .lst 1 s.length (avL (fun x (_ : Nat) => .str x) s)] (.bool true) := by
  refine ac_args (fun hp D vs hr => ?_) (handoffPlays_ac a b l s (by have := bounds_u64 ha; omega) (by have := bounds_u64 hb; omega) hl.2)
  refine ⟨by rw [← hr.1]; rfl, fun i z v hz hv => ?_⟩
  match i, hz with
  | 0, hz => exact hr.2 0 z v hz hv
  | 1, hz => exact hr.2 1 z v hz hv
  | 2, hz => cases hz; exact lst_same (hr.2 2 _ v rfl hv) (fun i j hi hj => avL_pl2 hi hj)
  | 3, hz => cases hz; exact lst_same (hr.2 3 _ v rfl hv) (fun i j hi hj => avL_st hi hj)
end Sy
end Go.Proofs.YtckbbcjbbmgmoaaGreatDoor
namespace Go.Proofs.YtckbbcjbbmgmoaaGreatDoor
namespace Sy
open Go
set_option linter.unusedVariables false

theorem laid_at {P : Program} {w : World} {n : String} {d : DataW Unit} : ∀ {l : List (String × DataW Unit)} {ps : List MemPlace}, DataW.LaidVars P w l ps → (n, d) ∈ l →
    ∃ g t cs fuel p, P.globalNamed n = some g ∧ (P.globals[g]?).map (·.type) = some t ∧ w.var? P n = some cs ∧ DataW.trod (fun _ => ()) P w 0 (fun _ => true) false fuel t cs.toList = some (d, p)
  | x :: r, ps, h, hm => by
    obtain ⟨n', d'⟩ := x
    obtain ⟨g, t, cs, fuel, p, q, h1, h2, h3, h4, h5, _⟩ := h
    rcases List.mem_cons.1 hm with e | hm
    · cases e
      exact ⟨g, t, cs, fuel, p, h1, h2, h3, h4⟩
    · exact laid_at h5 hm
theorem laid_tab {P : Program} {w : World} {name : String} {k : IntKind} {zs : List Int} {l : List (String × DataW Unit)} (h : laidMet P l w) (hm : (name, Lib.tabData k zs) ∈ l) {g : Nat} {t e : TypeId} {n : Nat}
    (hg : P.globalNamed name = some g) (hty : (P.globals[g]?).map (·.type) = some t) (ht : P.underlying t = some (.array n e)) (he : P.underlying e = some (.int k)) (hce : P.cellsOf e = 1) (hct : P.cellsOf t = n) : Lib.TabIs P w name k zs := by
  obtain ⟨ps, hv, _⟩ := h
  obtain ⟨g', t', cs, fuel, p, hg', ht', hvar, hd⟩ := laid_at hv hm
  obtain rfl := Option.some.inj (hg.symm.trans hg')
  obtain rfl := Option.some.inj (hty.symm.trans ht')
  unfold Lib.TabIs
  rw [hvar, ← Lib.cells_of_tab ht he hce hct hd]
theorem laid_ifc {P : Program} {w : World} {name nm : String} {d : DataW Unit} {l : List (String × DataW Unit)} (h : laidMet P l w) (hm : (name, .iface nm d) ∈ l) {g : Nat} {t : TypeId} {ms : Array (String × TypeId)}
    (hg : P.globalNamed name = some g) (hty : (P.globals[g]?).map (·.type) = some t) (ht : P.underlying t = some (.interface ms)) : ∃ te pe, w.var? P name = some #[.iface te pe] := by
  obtain ⟨ps, hv, _⟩ := h
  obtain ⟨g', t', cs, fuel, p, hg', ht', hvar, hd⟩ := laid_at hv hm
  obtain rfl := Option.some.inj (hg.symm.trans hg')
  obtain rfl := Option.some.inj (hty.symm.trans ht')
  obtain ⟨f2, u, v, e, _, _⟩ := iface_of_trod ht hd
  refine ⟨u, v, ?_⟩
  rw [hvar]
  obtain ⟨l0⟩ := cs
  have e : l0 = [.iface u v] := e
  rw [e]
end Sy
end Go.Proofs.YtckbbcjbbmgmoaaGreatDoor
