/- What package-level variables hold when a call begins: strconv's. -/
import Derived.Test.YtckbbcjbbmgmoaaDoorProg
import Derived.Lib.LaidTab
import Derived.Lib.ItoaNum
namespace Go.Proofs.YtckbbcjbbmgmoaaDoor
namespace Sy
open Go
set_option linter.unusedVariables false
noncomputable def gIx (name : String) : Nat := (Tryd.prog.globalNamed name).getD 0
/-- How many blocks the variables take up. -/
noncomputable def gN : Nat := max (gIx "internal/strconv.uint64pow10") (max (gIx "strconv.ErrSyntax") (gIx "strconv.ErrRange")) + 1
def Sentinel (w : World) (name : String) : Prop := ∃ te pe, w.var? Tryd.prog name = some #[.iface te pe]
def GOk (w : World) : Prop := gN ≤ w.heap.size ∧ Lib.TabIs Tryd.prog w "internal/strconv.uint64pow10" .u64 Lib.pow10Tab ∧ Sentinel w "strconv.ErrSyntax" ∧ Sentinel w "strconv.ErrRange"
theorem var_same {w w' : World} {name : String} (hn : gIx name < gN) (hb : ∀ b, b < gN → w'.heap[b]? = w.heap[b]?) {cs : Array Value} (h : w.var? Tryd.prog name = some cs) : w'.var? Tryd.prog name = some cs := by
  unfold World.var? at h ⊢
  unfold gIx at hn
  cases hg : Tryd.prog.globalNamed name with
  | none => rw [hg] at h; cases h
  | some g =>
    rw [hg] at h hn
    simp only [Option.bind_some] at h ⊢
    rw [hb g hn]
    exact h
theorem var_lt {w : World} {name : String} {cs : Array Value} (h : w.var? Tryd.prog name = some cs) : gIx name < w.heap.size := by
  unfold World.var? at h
  unfold gIx
  cases hg : Tryd.prog.globalNamed name with
  | none => rw [hg] at h; cases h
  | some g =>
    rw [hg] at h
    simp only [Option.bind_some] at h
    rcases Nat.lt_or_ge g w.heap.size with h' | h'
    · exact h'
    · rw [Array.getElem?_eq_none h'] at h; cases h
theorem gN_1 : gIx "internal/strconv.uint64pow10" < gN := by unfold gN; omega
theorem gN_2 : gIx "strconv.ErrSyntax" < gN := by unfold gN; omega
theorem gN_3 : gIx "strconv.ErrRange" < gN := by unfold gN; omega
theorem GOk_same {w w' : World} (h : GOk w) (hs : w.heap.size ≤ w'.heap.size) (hb : ∀ b, b < gN → w'.heap[b]? = w.heap[b]?) : GOk w' := by
  obtain ⟨h0, h1, ⟨t2, p2, h2⟩, t3, p3, h3⟩ := h
  exact ⟨Nat.le_trans h0 hs, var_same gN_1 hb h1, ⟨t2, p2, var_same gN_2 hb h2⟩, t3, p3, var_same gN_3 hb h3⟩
theorem GOk_size {w : World} (h : GOk w) : gN ≤ w.heap.size := h.1
/-- Out of what the variables read as. -/
theorem GOk_of {w : World} (h1 : Lib.TabIs Tryd.prog w "internal/strconv.uint64pow10" .u64 Lib.pow10Tab) (h2 : Sentinel w "strconv.ErrSyntax") (h3 : Sentinel w "strconv.ErrRange") : GOk w := by
  refine ⟨?_, h1, h2, h3⟩
  obtain ⟨t2, p2, h2⟩ := h2
  obtain ⟨t3, p3, h3⟩ := h3
  have k1 := var_lt h1
  have k2 := var_lt h2
  have k3 := var_lt h3
  unfold gN
  omega
end Sy
end Go.Proofs.YtckbbcjbbmgmoaaDoor
