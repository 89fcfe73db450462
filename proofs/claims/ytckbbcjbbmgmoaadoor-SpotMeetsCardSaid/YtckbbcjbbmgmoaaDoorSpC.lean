/- Chapter 4 (spot): plain facts: a place's text, bytes, and back; the order. -/
import Derived.Test.YtckbbcjbbmgmoaaDoorSpB
namespace Go.Proofs.YtckbbcjbbmgmoaaDoor
namespace Sy
open Go Go.RowKit
set_option maxRecDepth 100000
set_option linter.unusedSimpArgs false
set_option linter.unusedVariables false

theorem splitC_app {c : UInt8} : ∀ {u : List UInt8} {v : List UInt8}, (∀ x ∈ u, x ≠ c) → splitC c (u ++ c :: v) = u :: splitC c v
  | [], v, _ => by simp [splitC]
  | x :: u, v, h => by
    have ih := splitC_app (u := u) (v := v) (fun y hy => h y (by simp [hy]))
    rw [List.cons_append, splitC, if_neg (h x (by simp)), ih]
theorem splitC_one {c : UInt8} {u : List UInt8} (h : ∀ x ∈ u, x ≠ c) : splitC c u = [u] := splitC_no fun k hk => h c (List.mem_of_getElem? hk) rfl
theorem splitC_join (c : UInt8) : ∀ s : List UInt8, Lib.join (splitC c s) [c] = s
  | [] => by simp [splitC, Lib.join, List.intercalate]
  | x :: s => by
    have ih := splitC_join c s
    unfold splitC
    by_cases hx : x = c
    · subst hx
      rw [if_pos rfl]
      cases hs : splitC x s with
      | nil => exact absurd hs (splitC_ne _ _)
      | cons y r =>
        rw [hs] at ih
        unfold Lib.join at ih ⊢
        rw [List.intercalate_cons_cons, ih]; rfl
    · rw [if_neg hx]
      cases hs : splitC c s with
      | nil => exact absurd hs (splitC_ne _ _)
      | cons y r =>
        rw [hs] at ih
        unfold Lib.join at ih ⊢
        cases r with
        | nil => simpa using ih
        | cons z r => rw [List.intercalate_cons_cons] at ih ⊢; rw [List.cons_append, List.cons_append, ih]
theorem idx_of {s : List UInt8} {c : UInt8} {m : Nat} (h0 : ∀ k, k < m → s[k]? ≠ some c) (h : s[m]? = some c) : Lib.indexByte s c = m := by
  by_cases hn : Lib.indexByte s c < 0
  · exact absurd h (idx_no hn m)
  · obtain ⟨h1, h2, h3⟩ := idx_at hn
    rcases Nat.lt_trichotomy (Lib.indexByte s c).toNat m with hlt | heq | hgt
    · exact absurd h1 (h0 _ hlt)
    · omega
    · exact absurd h (h2 _ hgt)
theorem idx_app {u v : List UInt8} {c : UInt8} (h : ∀ x ∈ u, x ≠ c) : Lib.indexByte (u ++ c :: v) c = u.length := by
  refine idx_of (fun k hk => ?_) (by simp)
  rw [List.getElem?_append_left hk]
  intro e
  exact h c (List.mem_of_getElem? e) rfl
theorem cut_app {u v : List UInt8} (h : ∀ x ∈ u, x ≠ 58) : cutA (u ++ 58 :: v) [58] = u ∧ cutB (u ++ 58 :: v) [58] = v ∧ cutY (u ++ 58 :: v) [58] = true := by
  have e : idxZ (u ++ 58 :: v) [58] = u.length := idx_app h
  rw [cutA, cutB, cutY, e, if_neg (by omega), if_neg (by omega)]
  refine ⟨by simp, by simp, by simp⟩
theorem cut_join {s : List UInt8} (h : cutY s [58] = true) : s = cutA s [58] ++ 58 :: cutB s [58] := by
  have h0 : 0 ≤ idxZ s [58] := of_decide_eq_true h
  obtain ⟨h1, h2, h3⟩ := idx_at (c := by1 [58]) (s := s) (by show ¬ idxZ s [58] < 0; omega)
  rw [cutA, cutB, if_neg (by omega), if_neg (by omega)]
  have e : s.drop (idxZ s [58]).toNat = 58 :: s.drop ((idxZ s [58]).toNat + 1) := by
    have := List.drop_eq_getElem_cons h3
    rw [List.getElem?_eq_getElem h3] at h1
    rw [show (idxZ s [58]).toNat = (Lib.indexByte s (by1 [58])).toNat from rfl, this, Option.some.inj h1]; rfl
  rw [← e, List.take_append_drop]
theorem isD_no {u : List UInt8} (h : u.all isD = true) (c : UInt8) (hc : isD c = false) : ∀ x ∈ u, x ≠ c := by
  intro x hx e
  subst e
  rw [List.all_eq_true.1 h x hx] at hc
  cases hc
theorem dig_no {n : Int} (c : UInt8) (hc : isD c = false) : ∀ x ∈ digZ n, x ≠ c := isD_no (dec_is n.toNat).1 c hc
def hostT (x : Pl) : List UInt8 := digZ x.a ++ 46 :: (digZ x.b ++ 46 :: (digZ x.c ++ 46 :: digZ x.d))
theorem text_is (x : Pl) : plT x = hostT x ++ 58 :: digZ x.p := by simp [plT, hostT]
theorem host_no (x : Pl) : ∀ y ∈ hostT x, y ≠ 58 := by
  have hd : isD 58 = false := by decide
  intro y hy
  simp only [hostT, List.mem_append, List.mem_cons] at hy
  rcases hy with h | rfl | h | rfl | h | rfl | h
  · exact dig_no 58 hd y h
  · decide
  · exact dig_no 58 hd y h
  · decide
  · exact dig_no 58 hd y h
  · decide
  · exact dig_no 58 hd y h
theorem host_parts (x : Pl) : splitS (hostT x) [46] = [digZ x.a, digZ x.b, digZ x.c, digZ x.d] := by
  have hd : isD 46 = false := by decide
  show splitC 46 (hostT x) = _
  rw [hostT, splitC_app (dig_no 46 hd), splitC_app (dig_no 46 hd), splitC_app (dig_no 46 hd), splitC_one (dig_no 46 hd)]
theorem u8_in {n : Int} (h : 0 ≤ n ∧ n ≤ 255) : u64In n := ⟨h.1, by omega⟩
theorem sp_text {x : Pl} (h : plOk x) : (1 ≤ x.p → spE (plT x) = 0 ∧ spP (plT x) = x) ∧ (x.p = 0 → spE (plT x) = 4) := by
  obtain ⟨c1, c2, c3⟩ := cut_app (u := hostT x) (v := digZ x.p) (host_no x)
  rw [← text_is] at c1 c2 c3
  obtain ⟨ha, hb, hc, hd, hp⟩ := h
  have hh : hostS (plT x) = [digZ x.a, digZ x.b, digZ x.c, digZ x.d] := by rw [hostS, c1, host_parts]
  have na := num_of_dig (u8_in ha)
  have nb := num_of_dig (u8_in hb)
  have nc := num_of_dig (u8_in hc)
  have nd := num_of_dig (u8_in hd)
  have np := num_of_dig (n := x.p) ⟨hp.1, by omega⟩
  have hport : portS (plT x) = digZ x.p := c2
  have v0 : prtV (plT x) 0 = x.a := by rw [prtV, hh]; exact na.2
  have v1 : prtV (plT x) 1 = x.b := by rw [prtV, hh]; exact nb.2
  have v2 : prtV (plT x) 2 = x.c := by rw [prtV, hh]; exact nc.2
  have v3 : prtV (plT x) 3 = x.d := by rw [prtV, hh]; exact nd.2
  have e0 : prtE (plT x) 0 = 0 := by rw [prtE, hh]; exact na.1
  have e1 : prtE (plT x) 1 = 0 := by rw [prtE, hh]; exact nb.1
  have e2 : prtE (plT x) 2 = 0 := by rw [prtE, hh]; exact nc.1
  have e3 : prtE (plT x) 3 = 0 := by rw [prtE, hh]; exact nd.1
  refine ⟨fun h1 => ?_, fun h0 => if_neg fun hk => ?_⟩
  · have hok : spOk (plT x) := by
      refine ⟨c3, by rw [hh]; rfl, fun k hk => ?_, by rw [hport]; exact np.1, by rw [hport, np.2]; exact h1, by rw [hport, np.2]; exact hp.2⟩
      match k, hk with
      | 0, _ => exact ⟨e0, by rw [v0]; exact ha.2⟩
      | 1, _ => exact ⟨e1, by rw [v1]; exact hb.2⟩
      | 2, _ => exact ⟨e2, by rw [v2]; exact hc.2⟩
      | 3, _ => exact ⟨e3, by rw [v3]; exact hd.2⟩
    have hE : spE (plT x) = 0 := if_pos hok
    refine ⟨hE, ?_⟩
    rw [spP, if_pos hE, v0, v1, v2, v3, hport, np.2]
  · have := hk.2.2.2.2.1
    rw [hport, np.2, h0] at this
    omega
theorem list4 {l : List (List UInt8)} (h : l.length = 4) : l = [nthS l 0, nthS l 1, nthS l 2, nthS l 3] := by
  match l, h with
  | [a, b, c, d], _ => rfl
theorem text_sp {s : List UInt8} (h : spE s = 0) : plT (spP s) = s ∧ plOk (spP s) := by
  have hok : spOk s := by
    refine Classical.byContradiction fun hn => ?_
    rw [spE, if_neg hn] at h; cases h
  obtain ⟨h1, h2, h3, h4, h5, h6⟩ := hok
  have d0 := dig_of_num (h3 0 (by omega)).1
  have d1 := dig_of_num (h3 1 (by omega)).1
  have d2 := dig_of_num (h3 2 (by omega)).1
  have d3 := dig_of_num (h3 3 (by omega)).1
  have d4 := dig_of_num h4
  have hH : hostT (spP s) = cutA s [58] := by
    have hj := splitC_join 46 (cutA s [58])
    rw [show splitC 46 (cutA s [58]) = hostS s from rfl, list4 h2] at hj
    rw [← hj, hostT, spP, if_pos h]
    show digZ (prtV s 0) ++ 46 :: (digZ (prtV s 1) ++ 46 :: (digZ (prtV s 2) ++ 46 :: digZ (prtV s 3))) = _
    rw [show digZ (prtV s 0) = _ from d0.1, show digZ (prtV s 1) = _ from d1.1, show digZ (prtV s 2) = _ from d2.1, show digZ (prtV s 3) = _ from d3.1]
    simp [Lib.join, List.intercalate]
  have hp : (spP s).p = numV (portS s) := by rw [spP, if_pos h]
  refine ⟨?_, ?_⟩
  · rw [text_is, hH, hp, d4.1]
    exact (cut_join h1).symm
  · rw [spP, if_pos h]
    exact ⟨⟨d0.2.1, (h3 0 (by omega)).2⟩, ⟨d1.2.1, (h3 1 (by omega)).2⟩, ⟨d2.2.1, (h3 2 (by omega)).2⟩, ⟨d3.2.1, (h3 3 (by omega)).2⟩, by show 0 ≤ numV (portS s); omega, h6⟩
theorem sp_err (s : List UInt8) : spE s = 0 ∨ spE s = 4 := by
  unfold spE
  split
  · exact .inl rfl
  · exact .inr rfl
theorem of_err (s : List UInt8) : ofE s = 0 ∨ ofE s = 4 := by
  unfold ofE
  split
  · exact .inl rfl
  · exact .inr rfl
theorem of_bytes {x : Pl} (h : plOk x) : (1 ≤ x.p → ofE (plB x) = 0 ∧ ofP (plB x) = x) ∧ (x.p = 0 → ofE (plB x) = 4) := by
  obtain ⟨ha, hb, hc, hd, hp⟩ := h
  have hdrop : (plB x).drop 4 = [ub (x.p / 256), ub (x.p % 256)] := rfl
  have u1 := ub_nat (n := x.p / 256) (by omega) (by omega)
  have u2 := ub_nat (n := x.p % 256) (by omega) (by omega)
  refine ⟨fun h1 => ?_, fun h0 => if_neg fun hk => hk.2 ?_⟩
  · have hE : ofE (plB x) = 0 := by
      refine if_pos ⟨rfl, ?_⟩
      rw [hdrop]
      intro e
      have e1 := (List.cons.inj e).1
      have e2 := (List.cons.inj (List.cons.inj e).2).1
      rw [e1] at u1
      rw [e2] at u2
      have z : ((0 : UInt8).toNat : Int) = 0 := rfl
      omega
    refine ⟨hE, ?_⟩
    rw [ofP, if_pos hE, hdrop]
    have hg : getZ [ub (x.p / 256), ub (x.p % 256)] = x.p := by
      show (((0 * 256 + (ub (x.p / 256)).toNat) * 256 + (ub (x.p % 256)).toNat : Nat) : Int) = x.p
      omega
    rw [hg]
    have e1 : byteAt (plB x) 0 = x.a := ub_nat ha.1 ha.2
    have e2 : byteAt (plB x) 1 = x.b := ub_nat hb.1 hb.2
    have e3 : byteAt (plB x) 2 = x.c := ub_nat hc.1 hc.2
    have e4 : byteAt (plB x) 3 = x.d := ub_nat hd.1 hd.2
    rw [e1, e2, e3, e4]
  · rw [hdrop, h0]; rfl
end Sy
end Go.Proofs.YtckbbcjbbmgmoaaDoor
