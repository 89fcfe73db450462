/- A region that draws its order, whose operations only read what was there and whose callees only make memory: one walk, in the order of the text (over the kit's law wp_region_quiet, at the class of the worlds that extend one world). -/
import Derived.Test.YtgmafhogkdhadaaBase
import Derived.BigQuiet
namespace Go.Proofs.Ytgmafhogkdhadaa
open Go.RowKit

/-- A world that extends W: what was there is as it was. -/
def ExtOf (W : World) : Type := { w : World // Below W.heap.size W w }
instance nonempty_ext (W : World) : Nonempty (ExtOf W) := ⟨⟨W, Below.refl _ _⟩⟩
def extN (W : World) (x : ExtOf W) : World := x.1
theorem extN_below (W : World) (x : ExtOf W) : Below W.heap.size W (extN W x) := x.2
@[go_sem] theorem extN_cell (W : World) (x : ExtOf W) (a : Addr) : (extN W x).cell? a = if a.block < W.heap.size then W.cell? a else (extN W x).cell? a := by
  split
  · rename_i h; exact (extN_below W x).cell h
  · rfl
theorem ext_of_below {W : World} {x : ExtOf W} {w' : World} (h : Below (extN W x).heap.size (extN W x) w') : ∃ y, w' = extN W y :=
  ⟨⟨w', (extN_below W x).trans' h⟩, rfl⟩
theorem ext_call {P : Program} {f : FuncId} {args : Array Value} {W : World} {x : ExtOf W} {v : Value}
    (h : Calls P f args (extN W x) fun e w' => e = .returned v ∧ Below (extN W x).heap.size (extN W x) w') : Calls P f args (extN W x) fun e w'' => e = .returned v ∧ ∃ y, w'' = extN W y :=
  h.mono fun _ _ ⟨he, hb⟩ => ⟨he, ext_of_below hb⟩
theorem ext_call_same {P : Program} {f : FuncId} {args : Array Value} {W : World} {x : ExtOf W} {v : Value}
    (h : Calls P f args (extN W x) fun e w' => e = .returned v ∧ extN W x = w') : Calls P f args (extN W x) fun e w'' => e = .returned v ∧ ∃ y, w'' = extN W y :=
  h.mono fun _ _ ⟨he, hb⟩ => ⟨he, x, hb.symm⟩

/-- Behind the region: some world that extends W. -/
theorem ext_all {W : World} {R : World → Prop} (h : ∀ w', Below W.heap.size W w' → R w') : ∀ w', (∃ x, w' = extN W x) → R w' := by
  rintro _ ⟨x, rfl⟩
  exact h _ (extN_below W x)
theorem wp_region_ext {P : Program} {id : Nat} {Q : Exit → Act → World → Prop} {a : Act} {w : World} {l : List Oper} (hm : P.follows .mixedOrders = true) (hB : Region.lexB .any l.toArray = true)
    (h : wpQuiet P l.toArray (fun w' => ∃ x, w' = extN w x) (fun a' => ∀ w', (∃ x, w' = extN w x) → Q .normal a' w') l a) : (Code.region id l.toArray true).wp P Q a w :=
  wp_region_quiet (C := fun w' => ∃ x, w' = extN w x) hm hB ⟨⟨{ w with drawn := w.drawn + 1 }, ⟨rfl, rfl, rfl, Nat.le_refl _, fun _ _ => rfl⟩⟩, rfl⟩ (by simpa using h)
end Go.Proofs.Ytgmafhogkdhadaa
