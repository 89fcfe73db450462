/- Chapter 19 (session): a message is read as it was written; the chapter's example. -/
import Derived.Test.YthlggigjnpldcaaAcX
namespace Go.Proofs.Ythlggigjnpldcaa
namespace Sy
open Go Go.RowKit
set_option maxRecDepth 100000
set_option linter.unusedSimpArgs false
set_option linter.unusedVariables false

theorem numVs_bare : ∀ l : List Int, bareLs (numVs l) = true
  | [] => by rw [numVs, List.map_nil, bareLs]
  | x :: l => by
    have := numVs_bare l
    rw [numVs, List.map_cons, bareLs, show l.map numV = numVs l from rfl, this, numV, bareV, if_pos rfl]; rfl
theorem bareLs_app (a b : List CV) : bareLs (a ++ b) = (bareLs a && bareLs b) := by
  induction a with
  | nil => rw [List.nil_append, bareLs]; rfl
  | cons x l ih => rw [List.cons_append, bareLs, bareLs, ih, Bool.and_assoc]
theorem txt_bare (b : List UInt8) : bareLs [txtV b] = true := by rw [bareLs, bareLs, txtV, bareV, if_neg (by decide), if_pos rfl]; rfl
theorem items_bare (k : Int) (b : List UInt8) (l : List Int) : bareLs (itemsV k b l) = true := by
  unfold itemsV
  split
  · rw [bareLs_app, numVs_bare, txt_bare]; rfl
  · exact numVs_bare l
theorem msgV_bare (k : Int) (b : List UInt8) (l : List Int) : bareV (msgV k b l) = true := by
  rw [msgV, rowV, bareV, if_neg (by decide), if_neg (by decide), if_pos rfl, items_bare]; rfl
theorem numVs_deep : ∀ l : List Int, deepLs (numVs l) = 0
  | [] => by rw [numVs, List.map_nil, deepLs]
  | x :: l => by
    have := numVs_deep l
    rw [numVs, List.map_cons, deepLs, show l.map numV = numVs l from rfl, this, numV, deepV, if_neg (by decide)]; rfl
theorem items_deep (k : Int) (b : List UInt8) (l : List Int) : deepLs (itemsV k b l) = 0 := by
  unfold itemsV
  split
  · rw [deepLs_app, numVs_deep, deepLs, deepLs, txtV, deepV, if_neg (by decide)]; rfl
  · exact numVs_deep l
theorem msgV_deep (k : Int) (b : List UInt8) (l : List Int) : deepV (msgV k b l) = 1 := by
  rw [msgV, rowV, deepV, if_pos rfl, items_deep]; rfl
theorem msgV_len {k : Int} {b : List UInt8} {l : List Int} (hb : b.length ≤ 8000) (hl : l.length ≤ 10) (hs : ∀ x ∈ l, shortOk x) : (textV (msgV k b l)).length ≤ 8192 := by
  obtain ⟨w, t⟩ := numVs_wf hs
  have sb : shortOk (b.length : Nat) := ⟨by omega, by omega⟩
  have tl := shortZ_len sb
  have il : (itemsV k b l).length ≤ l.length + 1 := by
    unfold itemsV
    split <;> simp [numVs_len]
  have sl : shortOk ((itemsV k b l).length : Nat) := ⟨by omega, by omega⟩
  have tl2 := shortZ_len sl
  have ws : (textLs (itemsV k b l)).length ≤ 11 * l.length + b.length + 11 := by
    unfold itemsV
    split
    · rw [textLs_app, textLs, textLs, txtV, textV_mk, if_neg (by decide), if_pos rfl]
      simp only [List.length_append, List.length_cons, byteK, List.length_nil]
      omega
    · omega
  rw [msgV, rowV, textV_mk, if_neg (by decide), if_neg (by decide)]
  simp only [List.length_append, List.length_cons, byteK, List.length_nil]
  omega
/-- What a message's text is read as. -/
structure ReadIs (t : List UInt8) (k e : Int) (b : List UInt8) (l : List Int) : Prop where
  E : rsE t = 0
  K : rsK t = k
  P : rsP t = e
  I : rsI t = l
  B : rsB t = if k = 2 then b else []
  len : t.length ≤ 8300
  some : t ≠ []
theorem nns_num (l : List Int) : nnsV (numVs l) = l := by
  rw [nnsV, numVs, List.map_map]
  exact List.map_id' l
theorem nth_num {l : List Int} {i : Nat} (h : i < l.length) : nthV (numVs l) i = numV l[i] := by
  rw [nthV, numVs, List.getD_eq_getElem?_getD, List.getElem?_map, List.getElem?_eq_getElem h]; rfl
theorem read_msg {k e : Int} {b : List UInt8} {l : List Int} (hk : numsZ k = l.length) (k1 : 1 ≤ k) (k2 : k ≤ 4) (he : u64Ok e) (hb : b.length ≤ 8000) (hs : ∀ x ∈ l, shortOk x) : ReadIs (msgT k e b l) k e b l := by
  have hl : l.length ≤ 3 := by have := nums_le k; omega
  have tl := msgV_len (k := k) hb (by omega) hs
  have hE : putE (msgV k b l) = 0 := by rw [putE, if_pos (msgV_bare _ _ _), if_neg (by rw [msgV_deep]; omega), if_neg (by omega)]
  have hT : putT (msgV k b l) = textV (msgV k b l) := by rw [putT, if_pos hE]
  have ht : msgT k e b l = byT k e (textV (msgV k b l)) := by rw [msgT, if_pos hE, hT]
  obtain ⟨m1, m2, m3⟩ := msgV_ok (e := e) (k := k) (b := b) (l := l) ⟨he, by omega, by omega, hs⟩
  obtain ⟨g1, g2⟩ := get_of m2.1 (msgV_bare k b l) (by rw [msgV_deep]; omega) tl
  have bE : byE k (textV (msgV k b l)) = 0 := by rw [byE, if_neg (by omega), if_neg (by omega)]
  have G := frame_is k e _ [] bE he.1 he.2
  rw [List.append_nil, ← ht] at G
  have pe : paE (msgT k e b l) = 0 := by rw [paE, if_neg (fun h => h.2 G.R), G.E]
  have pK : paK (msgT k e b l) = k := by rw [paK, if_pos pe, G.K]
  have pP : paP (msgT k e b l) = e := by rw [paP, if_pos pe, G.P]
  have pB : paB (msgT k e b l) = textV (msgV k b l) := by rw [paB, if_pos pe, G.B]
  have gV : getV (paB (msgT k e b l)) = msgV k b l := by rw [pB, g1]
  have eL : rsL (msgT k e b l) = itemsV k b l := by rw [rsL, gV]; rfl
  have eN : rsN (msgT k e b l) = l.length := by rw [rsN, pK, hk]
  have eM : rsM (msgT k e b l) = l.length := by rw [rsM, eN]; simp
  have hi : ∀ j, j < l.length → nthV (itemsV k b l) j = nthV (numVs l) j := by
    intro j hj
    unfold itemsV
    split
    · exact nthV_app_l (by rw [numVs_len]; exact hj)
    · rfl
  have il : (itemsV k b l).length = if k = 2 then l.length + 1 else l.length := by
    unfold itemsV
    split
    · simp [numVs_len]
    · exact numVs_len l
  have ok : rsOk (msgT k e b l) := by
    refine ⟨pe, ?_, by rw [pB]; exact g2, by rw [gV]; rfl, ?_, ?_, ?_⟩
    · rw [rsN, pK]
      unfold numsZ
      split
      · decide
      · split
        · decide
        · split <;> omega
    · intro h2
      rw [pK] at h2
      rw [eL, eM, eN, il, if_pos h2]
      refine ⟨by omega, ?_⟩
      rw [itemsV, if_pos h2, ← numVs_len l, nthV_app_r]; rfl
    · intro h2
      rw [pK] at h2
      rw [eL, eN, il, if_neg h2]
    · rw [eL, eM]
      refine ⟨by rw [il]; split <;> omega, fun j hj => ?_⟩
      rw [hi j hj, nth_num hj]; rfl
  have rE : rsE (msgT k e b l) = 0 := if_pos ok
  have hlen := G.len
  simp only [List.length_nil, Nat.add_zero] at hlen
  refine ⟨rE, by rw [rsK, if_pos rE, pK], by rw [rsP, if_pos rE, pP], ?_, ?_, by omega, ?_⟩
  · rw [rsI, if_pos rE, eL, eM]
    unfold itemsV
    split
    · rw [List.take_left' (numVs_len l), nns_num]
    · rw [List.take_of_length_le (by rw [numVs_len]; omega), nns_num]
  · rw [rsB, pK]
    by_cases h2 : k = 2
    · rw [if_pos ⟨rE, h2⟩, if_pos h2, eL, eM, itemsV, if_pos h2, ← numVs_len l, nthV_app_r]; rfl
    · rw [if_neg (fun h => h2 h.2), if_neg h2]
  · intro h
    rw [h] at hlen
    simp at hlen
theorem awake19_ac : ACalls Try.prog 34 [] (.bool true) := by
  refine acalls_L (T := tt) (S := fun L => sumOf [new_s L, tick_s L, rs_s L, tru 67, tru 68, tru 69]) (lo := noA) (lb := noA) 5 (fn := Try.f34) rfl rfl (by kernel_rfl) (by kernel_rfl) rfl tt_ok (sumOf_ok ⟨new_good, tick_good, rs_good, tru_good Awake07_ac, tru_good Awake08_ac, tru_good Awake18_ac, trivial⟩) (by kernel_rfl) ?_
  (intro L P1 Q1 hL hP hQ; cbv; subst hL; simp only [L2, L3, std, sat_need, sat_must, sat_ite, sat_done, sat_yes, sat_ex, sat_all, sat_sup, sat_and, sat_fail]; subst hQ)
  (simp only [sySet, reduceCtorEq, forall_const, Int.reduceToNat, Int.reduceAdd, Int.reduceSub, Int.cast_ofNat_Int, Int.toNat_natCast, Nat.le_eq, Nat.sub_eq, ne_eq, Decidable.not_not, implies_true, true_and, and_true, wadd, wsub, wmul, decide_eq_true_eq, decide_eq_false_iff_not, Nat.succ_eq_add_one, imp_false, not_false_eq_true, not_true_eq_false, false_imp_iff, true_imp_iff])
  have tT : tickT ⟨0, 5, 0, 0, [], false, 1, 8, 0⟩ 0 = msgT 1 1 [] [5] := if_neg (by simp)
  have tS : (tickS ⟨0, 5, 0, 0, [], false, 1, 8, 0⟩ 0).opn = true := by rw [tickS, if_neg (by simp)]
  have R := read_msg (k := 1) (e := 1) (b := []) (l := [5]) rfl (by decide) (by decide) ⟨by decide, by decide⟩ (by decide) (by intro x hx; simp at hx; subst hx; exact ⟨by decide, by decide⟩)
  rw [tT, tS, R.E, R.K, R.P, R.I]
  have hl := R.len
  exact ⟨⟨by decide, by decide⟩, by unfold upto; omega, fun _ => ⟨fun _ => ⟨fun _ => ⟨fun _ => ⟨fun _ => ⟨⟨by omega, by decide⟩, rfl⟩, rfl⟩, rfl⟩, rfl⟩, rfl⟩, by decide⟩
end Sy
end Go.Proofs.Ythlggigjnpldcaa
