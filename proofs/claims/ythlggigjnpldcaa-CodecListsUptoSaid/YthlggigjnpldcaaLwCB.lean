/- Chapter 7's laws over their arguments as they are read. -/
import Derived.Test.YthlggigjnpldcaaLwCA
import Derived.Test.YthlggigjnpldcaaOpB
namespace Go.Proofs.Ythlggigjnpldcaa
namespace Sy
open Go Go.RowKit
set_option maxRecDepth 100000
set_option linter.unusedSimpArgs false
set_option linter.unusedVariables false

def ndBk (d : Nd) : Nat := d.s.length + d.b.length
def bytesI (b : List Int) : List UInt8 := b.map fun x => UInt8.ofNat x.toNat
theorem opensB_Nd {H : Type} {enc : TypeId × Value → H} {W : World} : OpensB enc Try.prog W 100 Nd 4 (ndAt std) NdOk ndBk :=
  (opensB_struct Try.underlying100 (by kernel_rfl) (opensFB_cons rfl (opensB_int Try.underlying3 (by kernel_rfl)) (opensFB_cons rfl (opensB_int Try.underlying24 (by kernel_rfl)) (opensFB_cons rfl (opensB_str Try.underlying9 (by kernel_rfl)) (opensFB_cons rfl (opensB_slice Try.underlying63 (by kernel_rfl) (opensB_int Try.underlying5 (by kernel_rfl)) (by omega)) (opensFB_nil _)))))).map
    (fun y => ⟨y.1, y.2.1, y.2.2.1, bytesI y.2.2.2.1⟩)
    (fun y j ho hj h D u hr => by
      match j, hj with
      | 0, _ => exact hr
      | 1, _ => exact hr
      | 2, _ => exact hr
      | 3, _ =>
        have hl : lenN (bytesI y.2.2.2.1) = y.2.2.2.1.length := by simp [lenN, bytesI]
        show R h D noMu (.lst 1 (lenN (bytesI y.2.2.2.1)) (fun q _ => .int .u8 (byteAt (bytesI y.2.2.2.1) q))) u
        rw [hl]
        refine lst_R (g := avL (fun n _ => .int .u8 n) y.2.2.2.1) hr fun i j u hi hj hr => ?_
        have e : byteAt (bytesI y.2.2.2.1) i = y.2.2.2.1[i] := by
          have hb := bounds_u8 (ho.2.2.2.1.2 _ (List.getElem_mem hi))
          unfold byteAt bytesI
          rw [List.getD_eq_getElem?_getD, List.getElem?_map, List.getElem?_eq_getElem hi]
          exact byte_of hb.1 (by omega)
        rw [e]
        rw [avL, List.getElem?_eq_getElem hi] at hr
        exact hr)
    (fun y ho => by
      have := bounds_u64 ho.2.1
      exact ⟨this.1, by show y.2.1 < _; omega, ho.2.2.1⟩)
    (fun y ho => by
      have h1 := bkL_len (fun _ : Int => 0) y.2.2.2.1
      have h2 : (bytesI y.2.2.2.1).length = y.2.2.2.1.length := by simp [bytesI]
      show y.2.2.1.length + (bytesI y.2.2.2.1).length ≤ 0 + (0 + (y.2.2.1.length + (bkL (fun _ : Int => 0) y.2.2.2.1 + 0)))
      omega)
theorem opensB_Nds {H : Type} {enc : TypeId × Value → H} {W : World} : OpensB enc Try.prog W 22 (List Nd) 1 (fun l _ => .lst 4 l.length (avL (ndAt std) l)) (fun l => l.length ≤ maxLen ∧ ∀ y ∈ l, NdOk y) (bkL ndBk) :=
  opensB_slice Try.underlying22 (by kernel_rfl) opensB_Nd (by omega)
theorem avN (l : List Nd) (i j : Nat) (h : i < l.length) : avL (ndAt std) l i j = ndAt std (nthD l i) j := by
  rw [avL, nthD, List.getD_eq_getElem?_getD, List.getElem?_eq_getElem h]; rfl
theorem small_of {l : List Nd} (h : bkL ndBk l + 1 ≤ 1048576) : smallD l := by
  have := bkL_len ndBk l
  refine ⟨by omega, fun i => ?_⟩
  rw [nthD, List.getD_eq_getElem?_getD]
  cases e : l[i]? with
  | none => exact ⟨by decide, by decide⟩
  | some d =>
    have := bkL_mem ndBk l d (List.mem_of_getElem? e)
    have : ndBk d = d.s.length + d.b.length := rfl
    show d.s.length ≤ _ ∧ d.b.length ≤ _
    omega
theorem rl_lst2 {h : Array Obj} {D : Nat → Prop} {sz n sz' n' : Nat} {a g g' : Nat → Nat → AV} {xs : List AV} {vs : Array Value} (e : ∀ i j, i < n' → j < sz' → g i j = g' i j) (r : RL h D noMu (.lst sz n a :: .lst sz' n' g :: xs) vs) : RL h D noMu (.lst sz n a :: .lst sz' n' g' :: xs) vs :=
  rl_2 (fun v hr => lst_same hr e) r
theorem law_CodecPuts (l : List Nd) (hl : (l.length ≤ maxLen ∧ ∀ y ∈ l, NdOk y) ∧ bkL ndBk l + 1 ≤ 1048576) (m : List Nd) (hm : (m.length ≤ maxLen ∧ ∀ y ∈ m, NdOk y) ∧ bkL ndBk m + 1 ≤ 1048576) :
    ACalls Try.prog 3 [.lst 4 l.length (avL (ndAt std) l), .lst 4 m.length (avL (ndAt std) m)] (.bool true) :=
  ac_args (fun h D vs r => rl_lst2 (fun i j hi hj => avN m i j hi) (rl_lst (fun i j hi hj => avN l i j hi) r)) (codecPuts_ac l m (small_of hl.2) (small_of hm.2) hl.1.2 hm.1.2)
end Sy
end Go.Proofs.Ythlggigjnpldcaa
