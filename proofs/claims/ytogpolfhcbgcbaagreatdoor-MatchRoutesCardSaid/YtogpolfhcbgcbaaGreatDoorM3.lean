/-The symbolic executor: calls; any operation. The symbolic executor: values, blocks that are a template's. The symbolic executor: calls that turn blocks of the caller's own; and what stands between these and the texts behind.-/
import Derived.Test.YtogpolfhcbgcbaaGreatDoorM2
import Derived.Deep.LoopGhost
import Derived.IntWalk
namespace Go.Proofs.YtogpolfhcbgcbaaGreatDoor
namespace Sy
open Go Go.RowKit
set_option linter.unusedSimpArgs false
set_option linter.unusedVariables false
section
variable {P : Program} {T : TT} {base : Nat} {M : Two} {W : World} {nt : Nat} {f : Nat -> Option AV} {g : Nat -> Option Ob} {c : Nat -> Bool} {a : Act} {w : World} {D : Nat -> Prop} {μ : Mu} {o : Oper}
variable (h : Sim base M W nt f g c a w D μ) (hd : ∀ d, o.dst = some d -> d < nt)
include h hd
omit h hd in
theorem zvu {l : List Operand} : ∀ {vals : List AV}, Ops w.heap D μ a l vals -> vals.length = l.length /\ ∀ (i : Nat) x y, vals[i]? = some x -> l[i]? = some y -> R w.heap D μ x (a.eval y) := by
 induction l with
 | nil => intro vals hv; cases vals with
   | nil => exact ⟨rfl, fun i x y h => by simp at h⟩
   | cons _ _ => exact hv.elim
 | cons z l ih => intro vals hv; cases vals with
   | nil => exact hv.elim
   | cons v vs =>
     obtain ⟨h1, h2⟩ := ih hv.2
     refine ⟨by simp [h1], fun i x y hx hy => ?_⟩
     cases i with
     | zero => simp at hx hy; subst hx; subst hy; exact hv.1
     | succ i => exact h2 i x y (by simpa using hx) (by simpa using hy)
theorem ycc {fo : Operand} {xs : Array Operand} {ts : Array TypeId} (e : o.op = .call { callee := .value fo, args := xs, argTypes := ts }) {vals : List AV} (hv : Ops w.heap D μ a (fo :: xs.toList) vals)
   {ob : Nat -> Option Ob} (hob : ∀ id z, ob id = some z -> g id = some z) : zc7 P base M W nt f g c o a w (yr7 std ob vals) := by
 unfold yr7
 split
 · rename_i k first caps zs
   obtain ⟨hf, hv⟩ := hv
   split
   · rename_i ys hys
     intro r hr K Q hK
     obtain ⟨l1, l2, l3⟩ := zkn h hob hys (ids := zdl (zcb first (zcb zs caps))) (fun _ h => h)
     have h' := h.freeze _ l2
     obtain ⟨o1, o2⟩ := zvu hv
     obtain ⟨vs, us, hfv, e1, e2, r1, r2⟩ : ∃ vs us, a.eval fo = .func (.func k) vs us /\ first.length = vs.size /\ caps.length = us.size /\ (∀ (i : Nat) x v, first[i]? = some x -> vs[i]? = some v -> R w.heap D μ x v) /\ (∀ (i : Nat) x v, caps[i]? = some x -> us[i]? = some v -> R w.heap D μ x v) := by
       generalize a.eval fo = u at hf
       cases hf with
       | fn _ _ _ vs us e1 e2 h1 h2 => exact ⟨vs, us, rfl, e1, e2, h1, h2⟩
     have hl : zs.length = xs.size := by rw [o1]; simp
     have hRL : RL w.heap (DF D μ (zdl (zcb first (zcb zs caps)))) zav ys ((vs ++ xs.map a.eval) ++ us) := by
       refine ⟨by rw [l1, zau, zau]; simp [e1, e2, hl], fun i x' v hx' hv' => ?_⟩
       have hlt : i < (zcb first (zcb zs caps)).length := by rw [<- l1]; exact (List.getElem?_eq_some_iff.1 hx').1
       refine l3 i _ x' v (List.getElem?_eq_getElem hlt) hx' ?_
       obtain ⟨x, hx⟩ : ∃ x, (zcb first (zcb zs caps))[i]? = some x := ⟨_, List.getElem?_eq_getElem hlt⟩
       have hx2 : (zcb first (zcb zs caps))[i]'hlt = x := (List.getElem?_eq_some_iff.1 hx).2
       rw [hx2]
       rw [zau, zau] at hx
       rw [Array.append_assoc] at hv'
       by_cases i1 : i < first.length
       · rw [List.getElem?_append_left i1] at hx
         rw [Array.getElem?_append_left (by omega)] at hv'
         exact r1 i x v hx hv'
       · rw [List.getElem?_append_right (by omega)] at hx
         rw [Array.getElem?_append_right (by omega)] at hv'
         rw [e1] at hx
         by_cases i2 : i - vs.size < zs.length
         · rw [List.getElem?_append_left i2] at hx
           rw [Array.getElem?_append_left (by simp; omega)] at hv'
           have i3 : i - vs.size < xs.size := by omega
           simp [i3] at hv'
           subst hv'
           exact o2 _ x _ hx (by simp [i3])
         · rw [List.getElem?_append_right (by omega)] at hx
           rw [Array.getElem?_append_right (by simp; omega)] at hv'
           simp only [Array.size_map, <- hl] at hv'
           exact r2 _ x v hx hv'
     have hcall := hr _ w _ h'.dlt hRL h'.gok
     have fin : ∀ v D' w', Below w.heap.size w w' -> (∀ b, DF D μ (zdl (zcb first (zcb zs caps))) b -> D' b) -> (∀ b, D' b -> DF D μ (zdl (zcb first (zcb zs caps))) b \/ (w.heap.size <= b /\ b < w'.heap.size)) -> R w'.heap D' zav r v -> K (a.put o.dst v) w' := by
       intro v D' w' hb hD hD' hrv
       have hs := h'.world hb.os hb.tape hb.output hb.size hb.block hD hD'
       exact hK _ _ ⟨_, _, hs.put hd hrv.free⟩
     unfold Oper.wp
     have hrun : (execOp a.eval o).run P w = (callFunc k ((vs ++ xs.map a.eval) ++ us)).run P w := by
       unfold execOp
       rw [e]
       simp [resolve, hfv, Deferred.ofValue, invoke]
     rw [hrun]
     unfold zek at hcall
     split at hcall
     · rename_i f' args' w' hcf
       rw [hcf, Oper.upon_enter]
       refine hcall.mono fun en w'' hen => ?_
       obtain ⟨v, D', rfl, p1, p2, p3, p4⟩ := hen
       exact fin v D' w'' p1 p2 p3 p4
     · rename_i v w' hcf
       rw [hcf, Oper.upon_value]
       obtain ⟨v', D', hv', p1, p2, p3, p4⟩ := hcall
       cases hv'
       exact fin v D' w' p1 p2 p3 p4
     · exact hcall.elim
   · trivial
 · trivial
theorem says (hT : zbw P T) (hpl : ∀ x ∈ zbm o.op, ∀ v, x = .const v -> zie v = true) {kn : List (Nat × Bool)} (hk : ∀ t b, za3 kn t = some b -> f t = some (.bool b)) : zc7 P base M W nt f g c o a w (zkb T std f g c kn o) := by
 have hv : ∀ l : List Operand, (∀ x ∈ l, ∀ v, x = .const v -> zie v = true) -> Ops w.heap D μ a l (zck (evf f kn) l) := by
   intro l
   induction l with
   | nil => intro _; trivial
   | cons x l ih => intro hp; exact ⟨yqa h hk x (fun v hv => hp x (by simp) v hv), ih (fun y hy => hp y (by simp [hy]))⟩
 have hv := hv _ hpl
 unfold zkb
 generalize zck (evf f kn) (zbm o.op) = vals at hv |-
 have hob : ∀ ids id z, yrv g ids id = some z -> g id = some z := by
   intro ids id z hz
   unfold yrv at hz
   split at hz
   · exact hz
   · cases hz
 have hice : ∀ id, zzm c o.op vals id = false -> c id = false := by
   intro id hz
   unfold zzm at hz
   split at hz
   · split at hz
     · exact hz
     · cases hz
   · cases hz
 unfold core
 split
 · rename_i x e; rw [e] at hv; exact zqn h hd (.inl e) hv
 · rename_i x e; rw [e] at hv; exact zqn h hd (.inr e) hv
 · rename_i b x y e; rw [e] at hv; exact yby h hd e hv
 · rename_i op t x y t' e; rw [e] at hv; exact ycd h hd hT e hv
 · rename_i op t x e; rw [e] at hv; exact ynq h hd e hv
 · rename_i s t x e
   have hv' := hv; rw [e] at hv'
   split
   · rename_i ht; exact zyb h hd hT e ht hv'
   · exact ycb h hd hT e hv' (hob _)
 · rename_i t e; exact zye h hd hT e
 · rename_i t x e
   have hv' := hv; rw [e] at hv'; exact yi2 h hd hT e hv'
 · rename_i t ps e
   have hv' := hv; rw [e] at hv'; simp only [zbm, zin] at hv'; exact zyc h hd hT e hv'
 · rename_i t n ps e
   have hv' := hv; rw [e] at hv'; simp only [zbm, zin] at hv'; exact ybw h hd hT e (zvt hv') (hob _)
 · rename_i t x e
   have hv' := hv; rw [e] at hv'; exact yc5 h hd hT e hv' (hob _)
 · rename_i t x y e
   have hv' := hv; rw [e] at hv'; exact zxx h hd hT e hv' (hob _) hice
 · rename_i t x k e
   have hv' := hv; rw [e] at hv'; exact zy8 h hd hT e hv'
 · rename_i t x k e
   have hv' := hv; rw [e] at hv'; exact zy7 h hd hT e hv'
 · rename_i t x y e
   have hv' := hv; rw [e] at hv'; exact zy6 h hd hT e (zvv hv') (hob _)
 · rename_i t x y e
   have hv' := hv; rw [e] at hv'; exact zy5 h hd hT e hv'
 · rename_i t x l r m e
   have hv' := hv; rw [e] at hv'; simp only [zbm, zau] at hv'
   split
   · exact zsu h hd hT e hv'
   · exact zxy h hd hT e hv' (hob _)
 · rename_i x i e
   have hv' := hv; rw [e] at hv'; exact zqo h hd e hv'
 · rename_i fn xs ys e
   have hv' := hv; rw [e] at hv'; simp only [zbm, zau] at hv'; exact yc8 h hd e hv'
 · rename_i x e
   have hv' := hv; rw [e] at hv'; exact yhw h hd e hv'
 · rename_i t x e
   have hv' := hv; rw [e] at hv'; exact yi4 h hd hT e hv' (hob _)
 · rename_i t x y e
   have hv' := hv; rw [e] at hv'; exact zsv h hd hT e hv'
 · rename_i t e
   split
   · exact zy1 h hd hT e
   · split
     · exact zy2 h hd hT e
     · exact yc3 h hd hT e
 · rename_i t x y ok e
   have hv' := hv; rw [e] at hv'
   split
   · rename_i hm; exact zy4 h hd hT e hv' (hob _) hm
   · split
     · rename_i hm; exact zy3 h hd hT e hv' (hob _) hm
     · exact yc4 h hd hT e hv' (hob _)
 · rename_i t x y v e
   have hv' := hv; rw [e] at hv'
   split
   · rename_i hm; exact yc0 h hd hT e hv' (hob _) hice hm
   · split
     · rename_i hm; exact ybz h hd hT e hv' (hob _) hice hm
     · exact yhx h hd hT e hv' (hob _) hice
 · rename_i cl e
   obtain ⟨callee, args, ts⟩ := cl
   have hv' := hv
   rw [e] at hv'
   cases callee with
   | value fo => exact ycc h hd e hv' (hob _)
   | invoke r m => trivial
   | builtin b =>
     simp only [zbm] at hv'
     cases b with
     | len =>
       simp only
       split
       · rename_i t r hts
         match args, hv' with
         | ⟨[x]⟩, hv' =>
           split
           · rename_i hm; exact yc6 h hd hT hts e hv' (hob _) hm
           · exact yi0 h hd hT hts e (zvv hv') (hob _)
         | ⟨[]⟩, hv' => match vals, hv' with | [], _ => trivial
         | ⟨x :: y :: l⟩, hv' => match vals, hv' with | u :: v :: vs, _ => (split; (· trivial); (· clear hv'; cases u <;> trivial))
       · trivial
     | cap =>
       simp only
       split
       · rename_i t r hts
         match args, hv' with
         | ⟨[x]⟩, hv' => exact yi1 h hd hT hts e hv'
         | ⟨[]⟩, hv' => match vals, hv' with | [], _ => trivial
         | ⟨x :: y :: l⟩, hv' => match vals, hv' with | u :: v :: vs, _ => cases u <;> trivial
       · trivial
     | clear =>
       simp only
       split
       · rename_i t r hts
         match args, hv' with
         | ⟨[x]⟩, hv' => exact zya h hd hT hts e hv' (hob _) hice
         | ⟨[]⟩, hv' => match vals, hv' with | [], _ => trivial
         | ⟨x :: y :: l⟩, hv' => match vals, hv' with | u :: v :: vs, _ => trivial
       · trivial
     | unsafeSliceData =>
       match args, hv' with
       | ⟨[x]⟩, hv' => exact zxz h hd e hv'
       | ⟨[]⟩, hv' => match vals, hv' with | [], _ => trivial
       | ⟨x :: y :: l⟩, hv' => match vals, hv' with | u :: v :: vs, _ => (show zc7 _ _ _ _ _ _ _ _ _ _ _ (zs6 _ _); unfold zs6; split; (rename_i he; simp at he); trivial)
     | unsafeString =>
       simp only
       split
       · rename_i t t2 hts
         match args, hv' with
         | ⟨[x, y]⟩, hv' => exact ybv h hd hT hts e hv' (hob _) hice
         | ⟨[]⟩, hv' => match vals, hv' with | [], _ => trivial
         | ⟨[x]⟩, hv' => match vals, hv' with | [u], _ => (show zc7 _ _ _ _ _ _ _ _ _ _ _ (zup _ _ _ _ _ _); unfold zup; split; (rename_i he; simp at he); trivial)
         | ⟨x :: y :: z :: l⟩, hv' => match vals, hv' with | u :: v :: q :: vs, _ => (show zc7 _ _ _ _ _ _ _ _ _ _ _ (zup _ _ _ _ _ _); unfold zup; split; (rename_i he; simp at he); trivial)
       · trivial
     | complex =>
       match args, hv' with
       | ⟨[x, y]⟩, hv' => exact zqp h hd e hv'
       | ⟨[]⟩, hv' => match vals, hv' with | [], _ => trivial
       | ⟨[x]⟩, hv' => match vals, hv' with | [u], _ => (show zc7 _ _ _ _ _ _ _ _ _ _ _ (yr4 _); unfold yr4; split; (rename_i he; simp at he); trivial)
       | ⟨x :: y :: z :: l⟩, hv' => match vals, hv' with | u :: v :: q :: vs, _ => (show zc7 _ _ _ _ _ _ _ _ _ _ _ (yr4 _); unfold yr4; split; (rename_i he; simp at he); trivial)
     | real =>
       match args, hv' with
       | ⟨[x]⟩, hv' => exact ybx h hd e hv'
       | ⟨[]⟩, hv' => match vals, hv' with | [], _ => trivial
       | ⟨x :: y :: l⟩, hv' => match vals, hv' with | u :: v :: vs, _ => (show zc7 _ _ _ _ _ _ _ _ _ _ _ (cRe _); unfold cRe; split; (rename_i he; simp at he); trivial)
     | imag =>
       match args, hv' with
       | ⟨[x]⟩, hv' => exact yc7 h hd e hv'
       | ⟨[]⟩, hv' => match vals, hv' with | [], _ => trivial
       | ⟨x :: y :: l⟩, hv' => match vals, hv' with | u :: v :: vs, _ => (show zc7 _ _ _ _ _ _ _ _ _ _ _ (cIm _); unfold cIm; split; (rename_i he; simp at he); trivial)
     | min =>
       match args, hv' with
       | ⟨[x, y]⟩, hv' => exact yhy h hd e hv'
       | ⟨[]⟩, hv' => match vals, hv' with | [], _ => trivial
       | ⟨[x]⟩, hv' => match vals, hv' with | [u], _ => cases u <;> trivial
       | ⟨x :: y :: z :: l⟩, hv' => match vals, hv' with | u :: v :: q :: vs, _ => (show zc7 _ _ _ _ _ _ _ _ _ _ _ (yvd _ _); unfold yvd; split; (rename_i he; simp at he); (rename_i he; simp at he); trivial)
     | max =>
       match args, hv' with
       | ⟨[x, y]⟩, hv' => exact yhz h hd e hv'
       | ⟨[]⟩, hv' => match vals, hv' with | [], _ => trivial
       | ⟨[x]⟩, hv' => match vals, hv' with | [u], _ => cases u <;> trivial
       | ⟨[x, y, z]⟩, hv' => exact yc2 h hd e hv'
       | ⟨x :: y :: z :: z' :: l⟩, hv' => match vals, hv' with | u :: v :: q :: q' :: vs, _ => (show zc7 _ _ _ _ _ _ _ _ _ _ _ (yqy _ _); unfold yqy; split; (rename_i he; simp at he); (rename_i he; simp at he); (rename_i he; simp at he); trivial)
     | append =>
       simp only
       split
       · rename_i t t' hts
         match args, hv' with
         | ⟨[x, y]⟩, hv' =>
           split
           · exact zqr h hd hT hts e hv' (hob _) hice
           · split
             · exact zqq h hd hT hts e hv' (hob _)
             · exact zsx h hd hT hts e hv' (hob _) hice
         | ⟨[]⟩, hv' => match vals, hv' with | [], _ => trivial
         | ⟨[x]⟩, hv' => match vals, hv' with | [u], _ => (split <;> first | trivial | (unfold zj4; split; (rename_i he; simp at he); trivial) | (split <;> first | trivial | (unfold zj3; split; (rename_i he; simp at he); trivial)))
         | ⟨x :: y :: z :: l⟩, hv' => match vals, hv' with | u :: v :: q :: vs, _ => (split <;> first | trivial | (unfold zj4; split; (rename_i he; simp at he); trivial) | (split <;> first | trivial | (unfold zj3; split; (rename_i he; simp at he); trivial)))
       · trivial
     | copy =>
       simp only
       split
       · rename_i t t' hts
         match args, hv' with
         | ⟨[x, y]⟩, hv' =>
           split
           · exact zy9 h hd hT hts e hv' (hob _) hice
           · exact yca h hd hT hts e hv' (hob _) hice
         | ⟨[]⟩, hv' => match vals, hv' with | [], _ => trivial
         | ⟨[x]⟩, hv' => match vals, hv' with | [u], _ => (split <;> first | (unfold zs7; split; (rename_i he; simp at he); trivial) | (unfold ygd; split; (rename_i he; simp at he); trivial))
         | ⟨x :: y :: z :: l⟩, hv' => match vals, hv' with | u :: v :: q :: vs, _ => (split <;> first | (unfold zs7; split; (rename_i he; simp at he); trivial) | (unfold ygd; split; (rename_i he; simp at he); trivial))
       · trivial
     | delete =>
       simp only
       split
       · rename_i t t' hts
         match args, hv' with
         | ⟨[x, y]⟩, hv' =>
           split
           · rename_i hm; exact zy0 h hd hT hts e hv' (hob _) hice hm
           · exact yc1 h hd hT hts e hv' (hob _) hice
         | ⟨[]⟩, hv' => match vals, hv' with | [], _ => trivial
         | ⟨[x]⟩, hv' => match vals, hv' with | [u], _ => (split; (· trivial); (show zc7 _ _ _ _ _ _ _ _ _ _ _ (zus _ _ _ _ _ _); unfold zus; split; (rename_i he; simp at he); trivial))
         | ⟨x :: y :: z :: l⟩, hv' => match vals, hv' with | u :: v :: q :: vs, _ => (split; (· trivial); (show zc7 _ _ _ _ _ _ _ _ _ _ _ (zus _ _ _ _ _ _); unfold zus; split; (rename_i he; simp at he); trivial))
       · trivial
     | _ => trivial
 · trivial
end
end Sy
end Go.Proofs.YtogpolfhcbgcbaaGreatDoor
namespace Go.Proofs.YtogpolfhcbgcbaaGreatDoor
namespace Sy
open Go Go.RowKit
set_option linter.unusedSimpArgs false
set_option linter.unusedVariables false
set_option linter.unusedSectionVars false
def zev (μ : Mu) (F : List (Nat × Option Nat)) : Mu := fun t => match za3 F t with
 | some (some id) => μ id
 | some none => some none
 | none => none
def Inj (ids : List (Nat × Option Nat)) : Prop := ∀ t t' id, za3 ids t = some (some id) -> za3 ids t' = some (some id) -> t = t'
structure Ext (m m' : zcr) : Prop where
 ids : ∀ t x, za3 m.ids t = some x -> za3 m'.ids t = some x
 ps : ∀ p, p ∈ m.ps -> p ∈ m'.ps
 inj : Inj m.ids -> Inj m'.ids
theorem Ext.refl (m : zcr) : Ext m m := ⟨fun _ _ h => h, fun _ h => h, fun h => h⟩
theorem Ext.trans {m m' m'' : zcr} (a : Ext m m') (b : Ext m' m'') : Ext m m'' := ⟨fun t x h => b.ids t x (a.ids t x h), fun p h => b.ps p (a.ps p h), fun h => b.inj (a.inj h)⟩
theorem Ext.add (m : zcr) (p : Prop) : Ext m (m.add p) := ⟨fun _ _ h => h, fun q h => List.mem_cons_of_mem _ h, fun h => h⟩
theorem yee {id : Nat} {x : Option Nat} (h : yp5 id x = true) : x = some id := by
 unfold yp5 at h
 split at h
 · rw [za4 h]
 · cases h
theorem yb3 {id : Nat} {ids : List (Nat × Option Nat)} (h : zqh id ids = false) : ∀ t, za3 ids t ≠ some (some id) := by
 induction ids with
 | nil => intro t; simp [za3]
 | cons p r ih =>
   obtain ⟨k, y⟩ := p
   unfold zqh at h
   cases e : yp5 id y with
   | true => rw [e] at h; cases h
   | false =>
     rw [e] at h
     intro t
     unfold za3
     split
     · intro hy
       cases hy
       simp [yp5, za6] at e
     · exact ih h t
theorem zf4 {m m' : zcr} {tid id : Nat} (h : zge m tid id = some m') : Ext m m' /\ za3 m'.ids tid = some (some id) := by
 unfold zge at h
 split at h
 · rename_i x hx
   split at h
   · rename_i e; cases h; exact ⟨.refl _, by rw [hx, yee e]⟩
   · cases h
 · rename_i hx
   split at h
   · cases h
   · rename_i e
     cases h
     refine ⟨⟨fun t x ht => ?_, fun _ h => h, fun hi t t' id' h1 h2 => ?_⟩, by simp [za3, za6]⟩
     · simp only [za3]
       split
       · rename_i e'; rw [za4 e'] at hx; rw [hx] at ht; cases ht
       · exact ht
     · have e := yb3 (by simpa using e : zqh id m.ids = false)
       simp only [za3] at h1 h2
       cases q1 : zat tid t with
       | true => cases q2 : zat tid t' with
         | true => rw [<- za4 q1, <- za4 q2]
         | false => rw [q1] at h1; rw [q2] at h2; cases h1; exact absurd h2 (e _)
       | false => cases q2 : zat tid t' with
         | true => rw [q1] at h1; rw [q2] at h2; cases h2; exact absurd h1 (e _)
         | false => rw [q1] at h1; rw [q2] at h2; exact hi _ _ _ h1 h2
theorem znn {m m' : zcr} {tid : Nat} (h : zhk m tid = some m') : Ext m m' /\ za3 m'.ids tid = some none := by
 unfold zhk at h
 split at h
 · cases h
 · rename_i hx
   cases h
   refine ⟨⟨fun t x ht => ?_, fun _ h => h, fun hi t t' id' h1 h2 => ?_⟩, by simp [za3, za6]⟩
   · simp only [za3]
     split
     · rename_i e'; rw [za4 e'] at hx; rw [hx] at ht; cases ht
     · exact ht
   · simp only [za3] at h1 h2
     split at h1 <;> split at h2
     · cases h1
     · cases h1
     · cases h2
     · exact hi _ _ _ h1 h2
section
variable {h : Array Obj} {D : Nat -> Prop} {μ : Mu}
def Fin (m : zcr) (F : List (Nat × Option Nat)) : Prop := (∀ t x, za3 m.ids t = some x -> za3 F t = some x) /\ ∀ p, p ∈ m.ps -> p
theorem Fin.of {m m' : zcr} {F : List (Nat × Option Nat)} (e : Ext m m') (f : Fin m' F) : Fin m F := ⟨fun t x h => f.1 t x (e.ids t x h), fun p h => f.2 p (e.ps p h)⟩
theorem zbt {F : List (Nat × Option Nat)} {t id : Nat} (h : za3 F t = some (some id)) : zev μ F t = μ id := by unfold zev; rw [h]
theorem zw4 {F : List (Nat × Option Nat)} {t : Nat} (h : za3 F t = some none) : zev μ F t = some none := by unfold zev; rw [h]
theorem zfh.turn {kk : KK} {has has' : Ky -> Bool} {es : Array MapEntry} {clock : Nat} {kf : Nat -> Ky} (k : zfh kk has' es clock kf) (e : ∀ x, has' x = has x) : zfh kk has es clock kf :=
 ⟨fun i x hx => ⟨(k.key i x hx).1, by rw [<- e]; exact (k.key i x hx).2⟩, fun x hx => k.all x (by rw [e]; exact hx), k.st⟩
theorem zpd {m m' : zcr} {v u : AV} (e : zdj m v u = some m') : Ext m m' /\ ∀ F x, Fin m' F -> R h D μ u x -> R h D (zev μ F) v x := by
 unfold zdj at e
 split at e
 · cases e; exact ⟨.refl _, fun F x _ _ => .dead _⟩
 · cases e; refine ⟨.add _ _, fun F x f r => ?_⟩
   have := f.2 _ (List.mem_cons_self ..); subst this
   cases r; exact .bool _
 · split at e
   · rename_i hk
     have hk := of_decide_eq_true hk; subst hk
     cases e; refine ⟨.add _ _, fun F x f r => ?_⟩
     have := f.2 _ (List.mem_cons_self ..); subst this
     cases r; exact .int _ _
   · cases e
 · cases e; refine ⟨.add _ _, fun F x f r => ?_⟩
   have := f.2 _ (List.mem_cons_self ..); subst this
   cases r with | str _ s e => exact .str _ s e
 · split at e
   · rename_i hk
     have hk := of_decide_eq_true hk; subst hk
     cases e; refine ⟨.add _ _, fun F x f r => ?_⟩
     have := f.2 _ (List.mem_cons_self ..); subst this
     cases r; exact .flt _ _
   · cases e
 · split at e
   · rename_i hk
     have hk := of_decide_eq_true hk; subst hk
     cases e; refine ⟨(Ext.add _ _).trans (.add _ _), fun F x f r => ?_⟩
     have h1 := f.2 _ (List.mem_cons_self ..)
     have h2 := f.2 _ (List.mem_cons_of_mem _ (List.mem_cons_self ..))
     subst h1; subst h2
     cases r; exact .cpx _ _ _
   · cases e
 · cases e; exact ⟨.refl _, fun F x _ r => by cases r; exact .nilp⟩
 · cases e; exact ⟨.refl _, fun F x _ r => by cases r; exact .nilm⟩
 · cases e; exact ⟨.refl _, fun F x _ r => by cases r; exact .nilf⟩
 · cases e; exact ⟨.refl _, fun F x _ r => by cases r; exact .nils⟩
 · cases e; exact ⟨.refl _, fun F x _ r => by cases r; exact .nili⟩
 · cases e; refine ⟨.add _ _, fun F x f r => ?_⟩
   have := f.2 _ (List.mem_cons_self ..); subst this
   cases r with
   | ifn => exact .ifn
   | ifs t p => exact .ifs t p
 · cases e; exact ⟨.refl _, fun F x _ r => by cases r; exact .emp _ _⟩
 · cases e; exact ⟨.refl _, fun F x _ r => by cases r; exact .emz _⟩
 · rename_i sz n get sz' n' get'
   split at e
   · rename_i hz
     have := za4 hz; subst this
     cases e; refine ⟨.add _ _, fun F x f r => ?_⟩
     obtain ⟨h1, h2⟩ := f.2 _ (List.mem_cons_self ..); subst h1
     cases r with
     | lst0 _ _ a cap hn => exact .lst0 _ _ a cap hn
     | lst _ _ _ b o cap vs hD hc hv h1 hr => exact .lst _ _ _ b o cap vs hD hc hv h1 (fun i j hi hj => by rw [<- h2 i j hi hj]; exact hr i j hi hj)
   · cases e
 · rename_i sz n get sz' n' get'
   split at e
   · rename_i hz
     have := za4 hz; subst this
     cases e; refine ⟨.add _ _, fun F x f r => ?_⟩
     obtain ⟨h1, h2⟩ := f.2 _ (List.mem_cons_self ..); subst h1
     cases r.lessx with
     | lst0 _ _ a cap hn => exact .lst0 _ _ a cap hn
     | lst _ _ _ b o cap vs hD hc hv h1 hr => exact .lst _ _ _ b o cap vs hD hc hv h1 (fun i j hi hj => by rw [<- h2 i j hi hj]; exact hr i j hi hj)
   · cases e
 · cases e; refine ⟨.add _ _, fun F x f r => ?_⟩
   have h1 := f.2 _ (List.mem_cons_self ..); subst h1
   cases r with | nils => exact .lst0 _ _ none 0 (fun _ => rfl)
 · cases e; refine ⟨.add _ _, fun F x f r => ?_⟩
   have h1 := f.2 _ (List.mem_cons_self ..); subst h1
   cases r with | emp a cap => exact .lst0 _ _ _ cap (fun h => by cases h)
 · cases e; refine ⟨.add _ _, fun F x f r => ?_⟩
   have h1 := f.2 _ (List.mem_cons_self ..); subst h1
   cases r with | emz a => exact .lst0 _ _ _ 0 (fun h => by cases h)
 · rename_i n get n' get'
   cases e; refine ⟨.add _ _, fun F x f r => ?_⟩
   obtain ⟨h1, h2⟩ := f.2 _ (List.mem_cons_self ..)
   cases r with
   | iptr _ _ b o vs hD hv h1' hr => exact .iptr _ _ b o vs hD (fun j hj => hv j (by omega)) (fun j hj => h1' j (by omega)) (fun j hj => by rw [<- h2 j hj]; exact hr j (by omega))
 · rename_i n get n' get'
   split at e
   · rename_i hz
     have := za4 hz; subst this
     cases e; refine ⟨.add _ _, fun F x f r => ?_⟩
     have h2 := f.2 _ (List.mem_cons_self ..)
     cases r with
     | arr _ _ vs e1 h1 hr => exact .arr _ _ vs e1 h1 (fun j v hv => by
         rw [<- h2 j (by rw [e1]; exact (Array.getElem?_eq_some_iff.1 hv).1)]
         exact hr j v hv)
   · cases e
 · split at e
   · rename_i ho
     have := za4 ho; subst this
     obtain ⟨e1, e2⟩ := zf4 e
     refine ⟨e1, fun F x f r => ?_⟩
     cases r with | ref _ _ b z m hm => exact .ref _ _ b z m ((zbt (f.1 _ _ e2)).trans hm)
   · cases e
 · split at e
   · rename_i hz
     split at e
     · rename_i ho
       split at e
       · rename_i m1 hp
         have := za4 hz; subst this
         have := za4 ho; subst this
         obtain ⟨e1, e2⟩ := zf4 hp
         cases e
         refine ⟨e1.trans (.add _ _), fun F x f r => ?_⟩
         have h1 := f.2 _ (List.mem_cons_self ..); subst h1
         cases r with | eref _ _ _ _ b z m hm hi => exact .eref _ _ _ _ b z m ((zbt (f.1 _ _ e2)).trans hm) hi
       · cases e
     · cases e
   · cases e
 · split at e
   · rename_i hz
     split at e
     · rename_i m1 hp
       have := za4 hz; subst this
       obtain ⟨e1, e2⟩ := zf4 hp
       cases e
       refine ⟨e1.trans (.add _ _), fun F x f r => ?_⟩
       obtain ⟨h1, h2⟩ := f.2 _ (List.mem_cons_self ..); subst h1; subst h2
       cases r with
       | slv _ _ a hm => exact .slv _ _ a ((zbt (f.1 _ _ e2)).trans hm)
       | sl0 _ _ _ b z m o hm ho => exact .sl0 _ _ _ b z m o ((zbt (f.1 _ _ e2)).trans hm) ho
       | sl _ _ _ _ b z m cap hm hn hz ho => exact .sl _ _ _ _ b z m cap ((zbt (f.1 _ _ e2)).trans hm) hn hz ho
     · cases e
   · cases e
 · split at e
   · rename_i hz
     split at e
     · rename_i m1 hp
       have := za4 hz; subst this
       obtain ⟨e1, e2⟩ := zf4 hp
       cases e
       refine ⟨e1.trans (.add _ _), fun F x f r => ?_⟩
       obtain ⟨h1, h2⟩ := f.2 _ (List.mem_cons_self ..); subst h1; subst h2
       cases r.less with
       | slv _ _ a hm => exact .slv _ _ a ((zbt (f.1 _ _ e2)).trans hm)
       | sl0 _ _ _ b z m o hm ho => exact .sl0 _ _ _ b z m o ((zbt (f.1 _ _ e2)).trans hm) ho
       | sl _ _ _ _ b z m cap hm hn hz ho => exact .sl _ _ _ _ b z m cap ((zbt (f.1 _ _ e2)).trans hm) hn hz ho
     · cases e
   · cases e
 · split at e
   · rename_i hz
     split at e
     · rename_i m1 hp
       have := za4 hz; subst this
       obtain ⟨e1, e2⟩ := zf4 hp
       cases e
       refine ⟨e1.trans (.add _ _), fun F x f r => ?_⟩
       obtain ⟨h1, h2, h3⟩ := f.2 _ (List.mem_cons_self ..); subst h1; subst h2; subst h3
       cases r with
       | slcv _ _ a hm => exact .slcv _ _ a ((zbt (f.1 _ _ e2)).trans hm)
       | slc0 _ _ _ b z m o hm ho => exact .slc0 _ _ _ b z m o ((zbt (f.1 _ _ e2)).trans hm) ho
       | slc _ _ _ _ _ b z m hm hn hz ho => exact .slc _ _ _ _ _ b z m ((zbt (f.1 _ _ e2)).trans hm) hn hz ho
     · cases e
   · cases e
 · split at e
   · rename_i m1 hp
     obtain ⟨e1, e2⟩ := znn hp
     cases e
     refine ⟨e1.trans (.add _ _), fun F x f r => ?_⟩
     obtain ⟨h1, h2⟩ := f.2 _ (List.mem_cons_self ..); subst h1; subst h2
     cases r with | nils => exact .slv _ _ none (zw4 (f.1 _ _ e2))
   · cases e
 · split at e
   · rename_i hf hfr
     have := za4 hf; subst this
     cases e; refine ⟨.add _ _, fun F x f r => ?_⟩
     obtain ⟨h1, h2⟩ := f.2 _ (List.mem_cons_self ..); subst h1; subst h2
     exact (zdm r hfr).free
   · cases e
 · obtain ⟨e1, e2⟩ := zf4 e
   refine ⟨e1, fun F x f r => ?_⟩
   cases r with | mp _ b z m hm => exact .mp _ b z m ((zbt (f.1 _ _ e2)).trans hm)
 · rename_i kk n has val kk' n' has' val'
   split at e
   · rename_i hk
     obtain rfl := of_decide_eq_true hk
     cases e; refine ⟨.add _ _, fun F x f r => ?_⟩
     obtain ⟨h1, h2, h3⟩ := f.2 _ (List.mem_cons_self ..)
     cases r with
     | mpi _ _ _ _ b es clock kf hD hb hn hk hr =>
       exact .mpi _ _ _ _ b es clock kf hD hb (hn.trans h1) (hk.turn h2) (fun i e he => by
         rw [<- h3 _ (by rw [<- h2]; exact (hk.key i e he).2)]; exact hr i e he)
   · cases e
 · cases e
theorem zfp : ∀ {vs us : List AV} {m m' : zcr}, zim m vs us = some m' -> Ext m m' /\ vs.length = us.length /\ ∀ F, Fin m' F -> ∀ (i : Nat) v u x, vs[i]? = some v -> us[i]? = some u -> R h D μ u x -> R h D (zev μ F) v x
 | [], [], m, m', e => by cases e; exact ⟨.refl _, rfl, fun F f i v u x hv => by simp at hv⟩
 | [], _ :: _, m, m', e => by cases e
 | _ :: _, [], m, m', e => by cases e
 | v :: vs, u :: us, m, m', e => by
   unfold zim at e
   split at e
   · rename_i m1 e1
     obtain ⟨x1, r1⟩ := zpd (h := h) (D := D) (μ := μ) e1
     obtain ⟨x2, l2, r2⟩ := zfp e
     refine ⟨x1.trans x2, by simp [l2], fun F f i v' u' x hv hu r => ?_⟩
     cases i with
     | zero => simp at hv hu; subst hv; subst hu; exact r1 F x (f.of x2) r
     | succ i => exact r2 F f i v' u' x (by simpa using hv) (by simpa using hu) r
   · cases e
theorem zw9 {m m' : zcr} {v u : AV} (e : zg6 m v u = some m') : Ext m m' /\ ∀ F x, Fin m' F -> R h D μ u x -> R h D (zev μ F) v x := by
 unfold zg6 at e
 split at e
 · split at e
   · exact zpd e
   · split at e
     · rename_i m1 hf e1
       obtain rfl := za4 hf
       obtain ⟨x1, l1, r1⟩ := zfp (h := h) (D := D) (μ := μ) e1
       obtain ⟨x2, l2, r2⟩ := zfp (h := h) (D := D) (μ := μ) e
       refine ⟨x1.trans x2, fun F x f r => ?_⟩
       cases r with
       | fn _ _ _ vs us e1 e2 h1 h2 =>
         refine .fn _ _ _ vs us (by rw [l1, e1]) (by rw [l2, e2]) (fun i v x hv hx => ?_) (fun i v x hv hx => ?_)
         · have hlt := (List.getElem?_eq_some_iff.1 hv).1
           have hu := List.getElem?_eq_getElem (show i < _ by rw [<- l1]; exact hlt)
           exact r1 F (f.of x2) i v _ x hv hu (h1 i _ x hu hx)
         · have hlt := (List.getElem?_eq_some_iff.1 hv).1
           have hu := List.getElem?_eq_getElem (show i < _ by rw [<- l2]; exact hlt)
           exact r2 F f i v _ x hv hu (h2 i _ x hu hx)
     · cases e
 · obtain ⟨x1, l1, r1⟩ := zfp (h := h) (D := D) (μ := μ) e
   refine ⟨x1, fun F x f r => ?_⟩
   obtain ⟨us, rfl, o1, s1, hr⟩ := r.inv_agg
   refine .agg _ _ (by rw [l1, s1]) o1 fun i v x hv hx => ?_
   obtain ⟨u, hu⟩ : ∃ u, (‹List AV› : List AV)[i]? = some u := by
     refine ⟨_, List.getElem?_eq_getElem ?_⟩
     rw [<- l1]; exact (List.getElem?_eq_some_iff.1 hv).1
   exact r1 F f i v u x hv hu (hr i u x hu hx)
 · exact zpd e
theorem zen {slots : List (Nat × AV)} {a : Act} : ∀ {ts : List (Nat × AV)} {m m' : zcr}, zgi slots ts m = some m' -> Ext m m' /\ ∀ F, Fin m' F -> (∀ t v, za3 slots t = some v -> R h D μ v (a.tmps.getD t undef)) ->
   ∀ t v, za3 ts t = some v -> R h D (zev μ F) v (a.tmps.getD t undef)
 | [], m, m', e => by cases e; exact ⟨.refl _, fun F f _ t v hv => by cases hv⟩
 | (t, v) :: r, m, m', e => by
   unfold zgi at e
   split at e
   · rename_i u hu
     split at e
     · rename_i m1 e1
       obtain ⟨x1, r1⟩ := zw9 (h := h) (D := D) (μ := μ) e1
       obtain ⟨x2, r2⟩ := zen e
       refine ⟨x1.trans x2, fun F f hs t' v' hv => ?_⟩
       unfold za3 at hv
       split at hv
       · rename_i hb; cases hv; rw [<- za4 hb]; exact r1 F _ (f.of x2) (hs _ _ hu)
       · exact r2 F f hs t' v' hv
     · cases e
   · cases e
theorem yj6 {m m' : zcr} {v u : AV} (e : yor m u v = some m') : Ext m m' /\ ∀ F x, Fin m' F -> R h D zav u x -> R h D (zev μ F) v x := by
 unfold yor at e
 split at e
 · cases e; exact ⟨.refl _, fun F x f r => .dead _⟩
 · split at e
   · rename_i m1 hp
     obtain ⟨e1, e2⟩ := znn hp
     cases e
     refine ⟨e1.trans (.add _ _), fun F x f r => ?_⟩
     obtain ⟨h1, h2, h3⟩ := f.2 _ (List.mem_cons_self ..)
     subst h1; subst h2; subst h3
     cases r with | nils => exact .slv _ _ none (zw4 (f.1 _ _ e2))
   · cases e
 · split at e
   · rename_i x hp
     cases e
     refine ⟨.add _ _, fun F x f r => ?_⟩
     have h1 := f.2 _ (List.mem_cons_self ..)
     subst h1
     exact r.free
   · cases e
theorem zr8 {y : Nat -> AV} : ∀ {vs : List AV} {j : Nat} {m m' : zcr}, zw6 m y j vs = some m' -> Ext m m' /\ ∀ F, Fin m' F -> ∀ (i : Nat) v x, vs[i]? = some v -> R h D zav (y (j + i)) x -> R h D (zev μ F) v x
 | [], j, m, m', e => by cases e; exact ⟨.refl _, fun F f i v x hv => by simp at hv⟩
 | v :: vs, j, m, m', e => by
   unfold zw6 at e
   split at e
   · rename_i m1 e1
     obtain ⟨x1, r1⟩ := yj6 (h := h) (D := D) (μ := μ) e1
     obtain ⟨x2, r2⟩ := zr8 e
     refine ⟨x1.trans x2, fun F f i v' x hv r => ?_⟩
     cases i with
     | zero => simp at hv; subst hv; exact r1 F x (f.of x2) r
     | succ i => exact r2 F f i v' x (by simpa using hv) (by rw [show j + 1 + i = j + (i + 1) by omega]; exact r)
   · cases e
theorem zw8 : ∀ {l l' : List (Ky × AV)}, yj8 l l' = true -> l.map Prod.fst = l'.map Prod.fst
 | [], [], _ => rfl
 | [], _ :: _, e => by cases e
 | _ :: _, [], e => by cases e
 | (k, x) :: l, (k', x') :: l', e => by
   unfold yj8 at e
   split at e
   · rename_i h; simp only [List.map_cons, zw8 e]; rw [show k = k' from zns h]
   · cases e
theorem znu : ∀ {l l' : List (Ky × AV)}, l.map Prod.fst = l'.map Prod.fst -> ∀ {q}, (zba l q).isSome = (zba l' q).isSome
 | [], [], _, _ => rfl
 | [], _ :: _, e, _ => by cases e
 | _ :: _, [], e, _ => by cases e
 | (k, x) :: l, (k', x') :: l', e, q => by
   simp only [List.map_cons, List.cons.injEq] at e
   obtain ⟨rfl, e⟩ := e
   simp only [zba]
   cases kyb k q
   · exact znu e
   · rfl
theorem znv : ∀ {l l' : List (Ky × AV)}, l.map Prod.fst = l'.map Prod.fst -> ∀ {q y}, zba l' q = some y -> ∃ (j : Nat) (v u : AV), (zck Prod.snd l)[j]? = some v /\ (zck Prod.snd l')[j]? = some u /\ zba l q = some v /\ u = y
 | [], [], _, _, _, e => by cases e
 | [], _ :: _, e, _, _, _ => by cases e
 | _ :: _, [], e, _, _, _ => by cases e
 | (k, x) :: l, (k', x') :: l', e, q, y, hy => by
   simp only [List.map_cons, List.cons.injEq] at e
   obtain ⟨rfl, e⟩ := e
   simp only [zba] at hy |-
   cases hk : kyb k q with
   | true => rw [hk] at hy; cases hy; exact ⟨0, x, x', rfl, rfl, rfl, rfl⟩
   | false =>
     rw [hk] at hy
     obtain ⟨j, v, u, h1, h2, h3, h4⟩ := znv e hy
     exact ⟨j + 1, v, u, h1, h2, h3, h4⟩
theorem ydw {m m' : zcr} {v u : Ob} (e : zw5 m v u = some m') : Ext m m' /\ v ≠ .gone /\ u ≠ .gone /\ ∀ F x, Fin m' F -> zj8 h D μ u x -> zj8 h D (zev μ F) v x := by
 unfold zw5 at e
 split at e
 · rename_i ty us' ty' us
   split at e
   · rename_i hty
     obtain rfl := za4 hty
     obtain ⟨x1, l1, r1⟩ := zfp (h := h) (D := D) (μ := μ) e
     refine ⟨x1, by simp, by simp, fun F x f ho => ?_⟩
     match x, ho with
     | some (b, z, mm), ⟨c, t, fr, e1, e2, e3, e4, e5, e6⟩ =>
       refine ⟨c, t, fr, e1, e2, e3, e4, by rw [l1, e5], fun i v x hv hx => ?_⟩
       obtain ⟨u, hu⟩ : ∃ u, us[i]? = some u := by
         refine ⟨_, List.getElem?_eq_getElem ?_⟩
         rw [<- l1]; exact (List.getElem?_eq_some_iff.1 hv).1
       exact r1 F f i v u x hv hu (e6 i u x hu hx)
   · cases e
 · split at e
   · rename_i hty hz
     have := za4 hz; subst this
     obtain rfl := za4 hty
     cases e
     refine ⟨.add _ _, by simp, by simp, fun F x f ho => ?_⟩
     obtain ⟨h1, h2⟩ := f.2 _ (List.mem_cons_self ..); subst h1
     match x, ho with
     | some (b, z, mm), ⟨e0, c, t, fr, e1, e2, e3, e4, e5⟩ =>
       exact ⟨e0, c, t, fr, e1, e2, e3, e4, fun i j hi hj => by
         obtain ⟨v, v1, v2, v3⟩ := e5 i j hi hj
         exact ⟨v, v1, v2, by rw [<- h2 i j hi hj]; exact v3⟩⟩
     | none, ho => exact ho
   · cases e
 · rename_i ty cs ty' cs'
   split at e
   · rename_i hty hl
     obtain rfl := za4 hty
     have hl := zbh hl
     rw [zal, zal] at hl
     obtain ⟨x1, l1, r1⟩ := zfp (h := h) (D := D) (μ := μ) e
     rw [zal, zb0] at r1
     refine ⟨x1, by simp, by simp, fun F x f ho => ?_⟩
     match x, ho with
     | some (b, z, mm), ⟨c, t, fr, e1, e2, e3, e4, e5⟩ =>
       refine ⟨c, t, fr, e1, e2, e3, by omega, fun i v hv => ?_⟩
       have hi := (List.getElem?_eq_some_iff.1 hv).1
       have hu : cs'[i]? = some (cs'[i]'(by omega)) := by simp
       obtain ⟨x, x1, x2, x3⟩ := e5 i _ hu
       exact ⟨x, x1, x2, r1 F f i v _ x hv (by rw [List.getElem?_take, if_pos hi]; exact hu) x3⟩
     | none, ho =>
       have ho : cs' = [] := ho
       subst ho
       show cs = []
       exact List.eq_nil_of_length_eq_zero (by simpa using hl)
   · cases e
 · rename_i kk n has val kk' n' has' val'
   split at e
   · rename_i hk
     obtain rfl := of_decide_eq_true hk
     cases e
     refine ⟨.add _ _, by simp, by simp, fun F x f ho => ?_⟩
     obtain ⟨h1, h2, h3⟩ := f.2 _ (List.mem_cons_self ..)
     match x, ho with
     | some (b, z), ⟨es, clock, kf, hb, hn, hk, hr⟩ =>
       exact ⟨es, clock, kf, hb, hn.trans h1, hk.turn h2, fun i e he => by
         rw [<- h3 _ (by rw [<- h2]; exact (hk.key i e he).2)]; exact hr i e he⟩
   · cases e
 · rename_i q q'
   cases e
   refine ⟨.add _ _, by simp, by simp, fun F x f ho => ?_⟩
   have h1 := f.2 _ (List.mem_cons_self ..)
   match x, ho with
   | some (b, z), ⟨es, clock, hb, he⟩ => exact ⟨es, clock, hb, fun hq => he (h1 hq)⟩
 · rename_i kk l kk' l'
   split at e
   · rename_i hk hl
     obtain rfl := of_decide_eq_true hk
     have hl := zw8 hl
     obtain ⟨x1, l1, r1⟩ := zfp (h := h) (D := D) (μ := μ) e
     refine ⟨x1, by simp, by simp, fun F x f ho => ?_⟩
     match x, ho with
     | some (b, z), ⟨es, clock, kf, hb, hn, hks, hnd, hr⟩ =>
       have hlen : l'.length = l.length := by have := congrArg List.length hl; simpa using this.symm
       refine ⟨es, clock, kf, hb, hn.trans hlen, hks.turn fun k => ?_, by rw [hl]; exact hnd, fun i e he => ?_⟩
       · rw [znu hl]
       · obtain ⟨y, y1, y2⟩ := hr i e he
         obtain ⟨j, v, u, v1, v2, v3, v4⟩ := znv hl y1
         subst v4
         exact ⟨v, v3, r1 F f j v _ e.val v1 v2 y2⟩
   · cases e
 · rename_i ty cs ty' sz n get
   split at e
   · rename_i hty
     obtain rfl := za4 hty
     split at e
     · rename_i m1 hm
       cases e
       obtain ⟨x1, r1⟩ := zr8 (h := h) (D := D) (μ := μ) hm
       refine ⟨x1.trans (.add _ _), by simp, by simp, fun F x f ho => ?_⟩
       have hle := f.2 _ (List.mem_cons_self ..)
       rw [zal] at hle
       match x, ho with
       | some (b, z, mm), ⟨e0, c, t, fr, e1, e2, e3, e4, e5⟩ =>
         refine ⟨c, t, fr, e1, e2, ⟨e3.1, e3.2.1⟩, by omega, fun i v hv => ?_⟩
         have hi := (List.getElem?_eq_some_iff.1 hv).1
         have hs : 0 < sz := by
           rcases Nat.eq_zero_or_pos sz with h0 | h0
           · rw [h0] at hle; omega
           · exact h0
         obtain ⟨x, x1, x2, x3⟩ := e5 (i / sz) (i % sz) (Nat.div_lt_of_lt_mul (by rw [Nat.mul_comm]; omega)) (Nat.mod_lt _ hs)
         rw [show i / sz * sz + i % sz = i by rw [Nat.mul_comm]; exact Nat.div_add_mod i _] at x1
         refine ⟨x, x1, x2, r1 F (f.of (.add _ _)) i v x hv ?_⟩
         rw [Nat.zero_add, ykf _ _ _ hs]
         exact x3
       | none, ho =>
         have ho : n = 0 := ho
         subst ho
         show cs = []
         exact List.eq_nil_of_length_eq_zero (by omega)
     · cases e
   · cases e
 · cases e
theorem zz3 {m m' : zcr} {v : Ob} (e : zto m v = some m') : Ext m m' /\ v ≠ .gone /\ ∀ F, Fin m' F -> zj8 h D (zev μ F) v none := by
 unfold zto at e
 split at e
 · cases e
   refine ⟨.add _ _, by simp, fun F f => ?_⟩
   exact (f.2 _ (List.mem_cons_self ..)).symm
 · cases e
   exact ⟨.refl _, by simp, fun F f => rfl⟩
 · cases e
structure yvq (h : Array Obj) (D : Nat -> Prop) (μ : Mu) (s : St) (ice : List Nat) (F : List (Nat × Option Nat)) (tid : Nat) (o : Ob) : Prop where
 live : o ≠ .gone
 pair : ∃ x, za3 F tid = some x /\ match x with
   | some id => (zbu s.ice id = true -> zbu ice tid = true) /\ ∃ o', za3 s.objs id = some o' /\ o' ≠ .gone /\ ∀ y, zj8 h D μ o' y -> zj8 h D (zev μ F) o y
   | none => zj8 h D (zev μ F) o none
theorem zdc {s : St} {ice : List Nat} : ∀ {ts : List (Nat × Ob)} {m m' : zcr}, zhn s ice ts m = some m' -> Ext m m' /\ ∀ F, Fin m' F -> ∀ tid o, za3 ts tid = some o -> yvq h D μ s ice F tid o
 | [], m, m', e => by cases e; exact ⟨.refl _, fun F f t o ho => by cases ho⟩
 | (tid, o) :: r, m, m', e => by
   unfold zhn at e
   split at e
   · rename_i id hid
     have key : ∀ o' m1, za3 s.objs id = some o' -> zw5 m o o' = some m1 -> zhn s ice r m1 = some m' -> (zbu s.ice id = true -> zbu ice tid = true) -> Ext m m' /\ ∀ F, Fin m' F -> ∀ t o1, za3 ((tid, o) :: r) t = some o1 -> yvq h D μ s ice F t o1 := by
       intro o' m1 ho' hm e hice
       obtain ⟨x1, n1, n2, r1⟩ := ydw (h := h) (D := D) (μ := μ) hm
       obtain ⟨x2, r2⟩ := zdc e
       refine ⟨x1.trans x2, fun F f t o1 ht => ?_⟩
       unfold za3 at ht
       split at ht
       · rename_i hb
         have := za4 hb; subst this
         cases ht
         exact ⟨n1, some id, f.1 _ _ (x2.ids _ _ (x1.ids _ _ hid)), hice, o', ho', n2, fun y hy => r1 F y (f.of x2) hy⟩
       · exact r2 F f t o1 ht
     split at e
     · cases e
     · rename_i hno
       split at e
       · rename_i o' ho'
         split at e
         · rename_i m1 hm
           refine key o' m1 ho' hm e fun hi => ?_
           cases hti : zbu ice tid with
           | true => rfl
           | false => exact absurd hti (hno hi)
         · cases e
       · cases e
   · rename_i hid
     split at e
     · rename_i m1 hm
       obtain ⟨x1, n1, r1⟩ := zz3 (h := h) (D := D) (μ := μ) hm
       obtain ⟨x2, r2⟩ := zdc e
       refine ⟨x1.trans x2, fun F f t o1 ht => ?_⟩
       unfold za3 at ht
       split at ht
       · rename_i hb
         have := za4 hb; subst this
         cases ht
         exact ⟨n1, none, f.1 _ _ (x2.ids _ _ (x1.ids _ _ hid)), r1 F (f.of x2)⟩
       · exact r2 F f t o1 ht
     · cases e
   · cases e
end
theorem zqs {l : List Nat} {t : Nat} {x : Option Nat} (h : za3 (ycg l) t = some x) : x = some t := by
 induction l with
 | nil => simp [ycg, za3] at h
 | cons a l ih =>
   unfold ycg za3 at h
   split at h
   · rename_i e; cases h; rw [za4 e]
   · exact ih h
theorem ziq {objs : List (Nat × Ob)} : ∀ {l : List (Nat × Option Nat)}, yei objs l = true -> ∀ t x, za3 l t = some x -> za3 objs t ≠ none
 | [], _, t, x, h => by cases h
 | (k, y) :: l, e, t, x, h => by
   unfold yei at e
   split at e
   · rename_i o ho
     unfold za3 at h
     split at h
     · rename_i hb; rw [<- za4 hb]; simp only at ho; rw [ho]; simp
     · exact ziq e t x h
   · cases e
theorem zrl {objs : List (Nat × Ob)} : ∀ {l : List Nat}, yk2 objs l = true -> ∀ t, zbu l t = true -> za3 objs t ≠ none
 | [], _, t, h => by cases h
 | k :: l, e, t, h => by
   unfold yk2 at e
   split at e
   · rename_i o ho
     unfold zbu at h
     split at h
     · rename_i hb; rw [<- za4 hb, ho]; simp
     · exact zrl e t h
   · cases e
end Sy
end Go.Proofs.YtogpolfhcbgcbaaGreatDoor
namespace Go.Proofs.YtogpolfhcbgcbaaGreatDoor
namespace Sy
open Go Go.RowKit
set_option linter.unusedSimpArgs false
set_option linter.unusedVariables false
set_option linter.unusedSectionVars false
structure yrn (D : Nat -> Prop) (w : World) (μ : Mu) (O O1 : List (Nat × Ob)) (r : AV) (e : Ending) (v : Value) (w' : World) (D' : Nat -> Prop) (μ' : Mu) : Prop where
 ret : e = .returned v
 os : w'.os = w.os
 tape : w'.tape = w.tape
 output : w'.output = w.output
 size : w.heap.size <= w'.heap.size
 old : ∀ b, b < w.heap.size -> (∀ n z, μ n ≠ some (some (b, z))) -> w'.heap[b]? = w.heap[b]?
 up : ∀ b, D b -> D' b
 dn : ∀ b, D' b -> D b \/ (w.heap.size <= b /\ b < w'.heap.size) \/ ∃ n z, μ n = some (some (b, z))
 dom : ∀ n, μ' n = none ↔ za3 O1 n = none
 obs : ∀ n o x, za3 O1 n = some o -> μ' n = some x -> zj8 w'.heap D' μ' o x
 inj : ∀ n n' b z z', μ' n = some (some (b, z)) -> μ' n' = some (some (b, z')) -> n = n'
 own : ∀ n b z, μ' n = some (some (b, z)) -> b < w'.heap.size /\ ¬ D' b /\ (w.heap.size <= b \/ ∃ m z', μ m = some (some (b, z')))
 keep : ∀ n, za3 O n ≠ none -> za3 O1 n ≠ none -> μ' n = μ n
 val : R w'.heap D' μ' r v
def zbj (P : Program) (f : FuncId) (xs : List AV) (O : List (Nat × Ob)) (r : AV) (O1 : List (Nat × Ob)) : Prop :=
 ∀ (D : Nat -> Prop) (w : World) (μ : Mu) (vs : Array Value), (∀ b, D b -> b < w.heap.size) -> RL w.heap D μ xs vs ->
   (∀ n, μ n = none ↔ za3 O n = none) -> (∀ n o x, za3 O n = some o -> μ n = some x -> zj8 w.heap D μ o x) ->
   (∀ n n' b z z', μ n = some (some (b, z)) -> μ n' = some (some (b, z')) -> n = n') -> (∀ n b z, μ n = some (some (b, z)) -> b < w.heap.size /\ ¬ D b) -> GOk w -> (∀ n b z, μ n = some (some (b, z)) -> gN <= b) ->
   zek P f vs w fun e w' => ∃ v D' μ', yrn D w μ O O1 r e v w' D' μ'
structure ygx (g : Nat -> Option Ob) (c : Nat -> Bool) (raw : List AV) (F : List (Nat × Option Nat)) (fr : Nat) (T : yrm) : Prop where
 len : raw.length = T.xs.length
 xs : ∀ h D μ vs, RL h D μ raw vs -> RL h D (zev μ F) T.xs vs
 inj : Inj F
 dom : ∀ n x, za3 F n = some x -> za3 T.O n ≠ none
 obs : ∀ n o, za3 T.O n = some o -> ∃ x, za3 F n = some x /\ match x with
   | some id => c id = false /\ ∃ o', g id = some o' /\ o' ≠ .gone /\ ∀ h D μ y, zj8 h D μ o' y -> zj8 h D (zev μ F) o y
   | none => ∀ h D μ, zj8 h D (zev μ F) o none
 fresh : ∀ n o, za3 T.O1 n = some o -> (∀ id, za3 F n ≠ some (some id)) -> g (fr + n) = none
 unpin : ∀ n o, za3 T.O1 n = some o -> (∀ id, za3 F n ≠ some (some id)) -> zfu (fr + n) = false
 ng : ∀ n, za3 T.O1 n ≠ some .gone
def mOs (F : List (Nat × Option Nat)) (fr : Nat) (T : yrm) : List (Nat × Ob) := zcb (zmw F fr T.O1) (zgo F T.O1 T.O)
theorem zfg {α : Type} (os l : List (Nat × α)) (id : Nat) : za3 (zcb os l) id = match za3 os id with | some o => some o | none => za3 l id := by
 induction os with
 | nil => rfl
 | cons x os ih =>
   obtain ⟨i, o⟩ := x
   simp only [zcb, za3]
   cases zat i id <;> simp [ih]
section
variable {F : List (Nat × Option Nat)} {fr : Nat} {h : Array Obj} {D : Nat -> Prop} {μ μ' : Mu}
theorem zk5 (hμ : ∀ n y, μ n = some y -> μ' (tgt F fr n) = some y) {x : AV} {v : Value} (r : R h D μ x v) : R h D μ' (zym F fr x) v := by
 cases r with
 | dead v => exact .dead v
 | bool b => exact .bool b
 | int k n => exact .int k n
 | str l s e => exact .str l s e
 | flt k b => exact .flt k b
 | cpx k a b => exact .cpx k a b
 | nilp => exact .nilp
 | nilm => exact .nilm
 | nilf => exact .nilf
 | nils => exact .nils
 | nili => exact .nili
 | ifn => exact .ifn
 | ifs t p => exact .ifs t p
 | emp a cap => exact .emp a cap
 | emz a => exact .emz a
 | lst0 sz get a cap hn => exact .lst0 sz get a cap hn
 | lst sz n get b o cap vs hD hc hv h1 hr => exact .lst sz n get b o cap vs hD hc hv h1 hr
 | lstx sz n get a r => exact .lstx _ _ _ a (ztq r)
 | iptr n get b o vs hD hv h1 hr => exact .iptr n get b o vs hD hv h1 hr
 | arr n get vs e h1 hr => exact .arr n get vs e h1 hr
 | ref id off b z m hm => exact .ref _ off b z m (hμ _ _ hm)
 | eref id sz i off b z m hm hi => exact .eref _ sz i off b z m (hμ _ _ hm) hi
 | slv id sz a hm => exact .slv _ sz a (hμ _ _ hm)
 | sl0 id sz off b z m o hm ho => exact .sl0 _ sz off b z m o (hμ _ _ hm) ho
 | sl id sz off n b z m cap hm hn hz ho => exact .sl _ sz off n b z m cap (hμ _ _ hm) hn hz ho
 | slcv id sz a hm => exact .slcv _ sz a (hμ _ _ hm)
 | slc0 id sz off b z m o hm ho => exact .slc0 _ sz off b z m o (hμ _ _ hm) ho
 | slc id sz off n cap b z m hm hn hz ho => exact .slc _ sz off n cap b z m (hμ _ _ hm) hn hz ho
 | fn f xs ys vs us e1 e2 h1 h2 =>
   simp only [zym]
   split
   · rename_i hf; exact (zdm (.fn f xs ys vs us e1 e2 h1 h2) hf).free
   · exact .dead _
 | agg cs vs e h1 hr => exact .dead _
 | tup cs vs e hr => exact .dead _
 | mp id b z m hm => exact .mp _ b z m (hμ _ _ hm)
 | bidx id off n i b z m hm hi => exact .bidx _ off n i b z m (hμ _ _ hm) hi
 | mpi kk n has val b es clock kf hD hb hn hk hr => exact .mpi kk n has val b es clock kf hD hb hn hk hr
theorem zh2 {α β : Type} (k : α -> β) (l : List α) (i : Nat) : (zck k l)[i]? = l[i]?.map k := by
 induction l generalizing i with
 | nil => rfl
 | cons x l ih => cases i with
   | zero => rfl
   | succ i => simp [zck, ih]
theorem zfs {α β : Type} (k : α -> β) (l : List α) : (zck k l).length = l.length := by
 induction l with
 | nil => rfl
 | cons x l ih => simp [zck, ih]
theorem yt0 (hμ : ∀ n y, μ n = some y -> μ' (tgt F fr n) = some y) {x : AV} {v : Value} (r : R h D μ x v) : R h D μ' (yt1 F fr x) v := by
 unfold yt1
 split
 · obtain ⟨us, rfl, o1, s1, hr⟩ := r.inv_agg
   refine .agg _ _ (by rw [zfs]; exact s1) o1 fun i x v hx hv => ?_
   rw [zh2] at hx
   obtain ⟨y, hy, rfl⟩ := Option.map_eq_some_iff.1 hx
   exact zk5 hμ (hr i y v hy hv)
 · obtain ⟨us, rfl, l1, hr⟩ := r.inv_tup
   refine .tup _ _ (by rw [zfs]; exact l1) fun i x v hx hv => ?_
   rw [zh2] at hx
   obtain ⟨y, hy, rfl⟩ := Option.map_eq_some_iff.1 hx
   exact zk5 hμ (hr i y v hy hv)
 · split
   · rename_i hf; exact (zdm r hf).free
   · cases r with
     | fn f xs ys vs us e1 e2 h1 h2 =>
       refine .fn _ _ _ _ _ (by rw [zfs]; exact e1) (by rw [zfs]; exact e2) (fun i x v hx hv => ?_) (fun i x v hx hv => ?_)
       · rw [zh2] at hx
         obtain ⟨y, hy, rfl⟩ := Option.map_eq_some_iff.1 hx
         exact zk5 hμ (h1 i y v hy hv)
       · rw [zh2] at hx
         obtain ⟨y, hy, rfl⟩ := Option.map_eq_some_iff.1 hx
         exact zk5 hμ (h2 i y v hy hv)
 · exact zk5 hμ r
theorem yie (hμ : ∀ n y, μ n = some y -> μ' (tgt F fr n) = some y) {o : Ob} {x : Option (Nat × Nat × Nat)} (k : zj8 h D μ o x) : zj8 h D μ' (zyl F fr o) x := by
 match o, x, k with
 | .box ty cs, some (b, z, m), ⟨c, t, q, e, r1, r2, r3, r4, r5⟩ =>
   refine ⟨c, t, q, e, r1, r2, r3, by rw [zfs]; exact r4, fun i x v hx hv => ?_⟩
   rw [zh2] at hx
   obtain ⟨y, hy, rfl⟩ := Option.map_eq_some_iff.1 hx
   exact zk5 hμ (r5 i y v hy hv)
 | .row ty sz n get, some (b, z, m), k => exact k
 | .spr ty cs, some (b, z, m), ⟨c, t, q, e, r1, r2, r3, r4⟩ =>
   refine ⟨c, t, q, e, r1, r2, by rw [zfs]; exact r3, fun i x hx => ?_⟩
   rw [zh2] at hx
   obtain ⟨y, hy, rfl⟩ := Option.map_eq_some_iff.1 hx
   obtain ⟨v, v1, v2, v3⟩ := r4 i y hy
   exact ⟨v, v1, v2, zk5 hμ v3⟩
 | .map kk n has val, some (b, z), k => exact k
 | .mapq e, some (b, z), k => exact k
 | .mapl kk l, some (b, z), ⟨es, clock, kf, e, r1, r2, r3, r4⟩ =>
   have hm : ∀ l : List (Ky × AV), (zck (fun x => (x.1, zym F fr x.2)) l).map Prod.fst = l.map Prod.fst := by
     intro l
     induction l with
     | nil => rfl
     | cons x l ih => simp [zck, ih]
   have hk : ∀ (l : List (Ky × AV)) q, zba (zck (fun x => (x.1, zym F fr x.2)) l) q = (zba l q).map (zym F fr) := by
     intro l q
     induction l with
     | nil => rfl
     | cons x l ih => obtain ⟨k, x⟩ := x; simp only [zck, zba]; split <;> simp [ih]
   refine ⟨es, clock, kf, e, by rw [zfs]; exact r1, ?_, by rw [hm]; exact r3, fun i e' he' => ?_⟩
   · simp only [hk, Option.isSome_map]; exact r2
   · obtain ⟨y, y1, y2⟩ := r4 i e' he'
     exact ⟨_, by rw [hk, y1]; rfl, zk5 hμ y2⟩
 | .row _ _ n _, none, k => exact k
 | .spr _ cs, none, k =>
   have k : cs = [] := k
   subst k
   rfl
 | .gone, _, _ => exact trivial
end
theorem zlt {F : List (Nat × Option Nat)} {fr : Nat} : ∀ {O1 : List (Nat × Ob)} {i : Nat} {ob : Ob}, za3 (zmw F fr O1) i = some ob -> ∃ n o, (n, o) ∈ O1 /\ tgt F fr n = i /\ ob = zyl F fr o
 | [], i, ob, h => by cases h
 | (n, o) :: r, i, ob, h => by
   unfold zmw za3 at h
   split at h
   · rename_i e; cases h; exact ⟨n, o, by simp, za4 e, rfl⟩
   · obtain ⟨m, o', h1, h2, h3⟩ := zlt h
     exact ⟨m, o', List.mem_cons_of_mem _ h1, h2, h3⟩
theorem zp9 {F : List (Nat × Option Nat)} {fr : Nat} : ∀ {O1 : List (Nat × Ob)} (_ : ∀ n n', za3 O1 n ≠ none -> za3 O1 n' ≠ none -> tgt F fr n = tgt F fr n' -> n = n') {n : Nat} {o : Ob}, za3 O1 n = some o -> za3 (zmw F fr O1) (tgt F fr n) = some (zyl F fr o)
 | [], hi, n, o, h => by cases h
 | (m, o') :: r, hi, n, o, h => by
   have h0 := h
   unfold za3 at h
   unfold zmw za3
   cases e : zat m n with
   | true =>
     have := za4 e; subst this
     rw [e] at h; cases h
     simp [za6]
   | false =>
     rw [e] at h
     simp only at h
     have hne : m ≠ n := by rintro rfl; rw [za6] at e; cases e
     have : zat (tgt F fr m) (tgt F fr n) = false := zan fun x => hne (hi m n (by simp [za3, za6]) (by rw [h0]; simp) x)
     rw [this]
     refine zp9 (O1 := r) (fun k k' h1 h2 h3 => hi k k' ?_ ?_ h3) h
     · unfold za3; split
       · simp
       · exact h1
     · unfold za3; split
       · simp
       · exact h2
theorem zpc {α : Type} : ∀ {l : List (Nat × α)} {n : Nat} {o : α}, (n, o) ∈ l -> za3 l n ≠ none
 | (m, o') :: r, n, o, h => by
   unfold za3
   split
   · simp
   · rename_i e
     rcases List.mem_cons.1 h with h | h
     · cases h; rw [za6] at e; cases e
     · exact zpc h
theorem znz {F : List (Nat × Option Nat)} {O1 : List (Nat × Ob)} : ∀ {O : List (Nat × Ob)} {i : Nat} {ob : Ob}, za3 (zgo F O1 O) i = some ob -> ob = .gone /\ ∃ n, za3 O n ≠ none /\ za3 O1 n = none /\ za3 F n = some (some i)
 | [], i, ob, h => by cases h
 | (n, o) :: r, i, ob, h => by
   have up : ∀ {m}, za3 r m ≠ none -> za3 ((n, o) :: r) m ≠ none := by
     intro m hm
     unfold za3
     split
     · simp
     · exact hm
   have down : za3 (zgo F O1 r) i = some ob -> ob = .gone /\ ∃ m, za3 ((n, o) :: r) m ≠ none /\ za3 O1 m = none /\ za3 F m = some (some i) := fun h => by
     obtain ⟨h1, m, h2, h3, h4⟩ := znz h
     exact ⟨h1, m, up h2, h3, h4⟩
   unfold zgo at h
   split at h
   · exact down h
   · rename_i h1
     split at h
     · rename_i id hid
       unfold za3 at h
       split at h
       · rename_i e
         cases h
         exact ⟨rfl, n, by simp [za3, za6], h1, by rw [hid, za4 e]⟩
       · exact down h
     · exact down h
theorem zm4 {F : List (Nat × Option Nat)} {O1 : List (Nat × Ob)} : ∀ {O : List (Nat × Ob)} {n i : Nat}, za3 O n ≠ none -> za3 O1 n = none -> za3 F n = some (some i) -> za3 (zgo F O1 O) i = some .gone
 | [], n, i, h, _, _ => by simp [za3] at h
 | (m, o) :: r, n, i, h, h1, h2 => by
   unfold zgo
   unfold za3 at h
   cases e : zat m n with
   | true =>
     have := za4 e; subst this
     rw [h1, h2]
     simp [za3, za6]
   | false =>
     rw [e] at h
     have ih := zm4 (O := r) h h1 h2
     split
     · exact ih
     · split
       · unfold za3; split
         · rfl
         · exact ih
       · exact ih
section
variable {P : Program} {base : Nat} {M : Two} {W : World} {nt : Nat} {f : Nat -> Option AV} {g : Nat -> Option Ob} {c : Nat -> Bool} {a : Act} {w : World} {D : Nat -> Prop} {μ : Mu}
variable {raw : List AV} {F : List (Nat × Option Nat)} {fr : Nat} {T : yrm}
theorem ygx.tgt_inj (hm : ygx g c raw F fr T) : ∀ n n', za3 T.O1 n ≠ none -> za3 T.O1 n' ≠ none -> tgt F fr n = tgt F fr n' -> n = n' := by
 have key : ∀ n n' id, za3 T.O1 n' ≠ none -> za3 F n = some (some id) -> (∀ id, za3 F n' ≠ some (some id)) -> id ≠ fr + n' := by
   intro n n' id h1 h2 h3 e
   obtain ⟨o, ho⟩ := Option.ne_none_iff_exists'.1 (hm.dom n _ h2)
   obtain ⟨x, hx, hx2⟩ := hm.obs n o ho
   rw [h2] at hx; cases hx
   obtain ⟨_, o', ho', _⟩ := hx2
   obtain ⟨o1, ho1⟩ := Option.ne_none_iff_exists'.1 h1
   rw [e, hm.fresh n' o1 ho1 h3] at ho'
   cases ho'
 have no : ∀ {n}, ¬ (∃ id, za3 F n = some (some id)) -> (∀ id, za3 F n ≠ some (some id)) /\ tgt F fr n = fr + n := by
   intro n h
   refine ⟨fun id e => h ⟨id, e⟩, ?_⟩
   unfold tgt
   split
   · rename_i id e; exact absurd ⟨id, e⟩ h
   · rfl
 have yes : ∀ {n id}, za3 F n = some (some id) -> tgt F fr n = id := by
   intro n id h; unfold tgt; rw [h]
 intro n n' h1 h2 h3
 by_cases e : ∃ id, za3 F n = some (some id) <;> by_cases e' : ∃ id, za3 F n' = some (some id)
 · obtain ⟨id, e⟩ := e
   obtain ⟨id', e'⟩ := e'
   rw [yes e, yes e'] at h3
   subst h3
   exact hm.inj _ _ _ e e'
 · obtain ⟨id, e⟩ := e
   obtain ⟨q1, q2⟩ := no e'
   rw [yes e, q2] at h3
   exact absurd h3 (key n n' id h2 e q1)
 · obtain ⟨id, e'⟩ := e'
   obtain ⟨q1, q2⟩ := no e
   rw [yes e', q2] at h3
   exact absurd h3.symm (key n' n id h1 e' q1)
 · rw [(no e).2, (no e').2] at h3
   omega
theorem ygx.asks (hm : ygx g c raw F fr T) (h : Sim base M W nt f g c a w D μ) :
   (∀ n, zev μ F n = none ↔ za3 T.O n = none) /\ (∀ n o x, za3 T.O n = some o -> zev μ F n = some x -> zj8 w.heap D (zev μ F) o x) /\
   (∀ n n' b z z', zev μ F n = some (some (b, z)) -> zev μ F n' = some (some (b, z')) -> n = n') /\ (∀ n b z, zev μ F n = some (some (b, z)) -> b < w.heap.size /\ ¬ D b /\ ∃ id o, za3 F n = some (some id) /\ μ id = some (some (b, z)) /\ g id = some o /\ o ≠ .gone /\ c id = false) := by
 have own : ∀ n b z, zev μ F n = some (some (b, z)) -> ∃ id o, za3 F n = some (some id) /\ μ id = some (some (b, z)) /\ g id = some o /\ o ≠ .gone /\ c id = false := by
   intro n b z hn
   unfold zev at hn
   split at hn
   · rename_i id hid
     obtain ⟨o, ho⟩ := Option.ne_none_iff_exists'.1 (hm.dom n _ hid)
     obtain ⟨x, hx, hx2⟩ := hm.obs n o ho
     rw [hid] at hx; cases hx
     obtain ⟨c1, o', ho', ho2, _⟩ := hx2
     exact ⟨id, o', hid, hn, ho', ho2, c1⟩
   · cases hn
   · cases hn
 refine ⟨fun n => ⟨fun hn => ?_, fun hn => ?_⟩, fun n o x ho hx => ?_, fun n n' b z z' h1 h2 => ?_, fun n b z h1 => ?_⟩
 · refine Classical.byContradiction fun hne => ?_
   obtain ⟨o, ho⟩ := Option.ne_none_iff_exists'.1 hne
   obtain ⟨x, hx, hx2⟩ := hm.obs n o ho
   unfold zev at hn
   rw [hx] at hn
   cases x with
   | none => cases hn
   | some id =>
     obtain ⟨_, o', ho', _⟩ := hx2
     rw [(h.dom id).1 hn] at ho'
     cases ho'
 · unfold zev
   split
   · rename_i e; exact absurd hn (hm.dom n _ e)
   · rename_i e; exact absurd hn (hm.dom n _ e)
   · rfl
 · obtain ⟨y, hy, hy2⟩ := hm.obs n o ho
   unfold zev at hx
   rw [hy] at hx
   cases y with
   | none => cases hx; exact hy2 _ _ _
   | some id =>
     obtain ⟨_, o', ho', _, ho3⟩ := hy2
     exact ho3 _ _ _ _ (h.obs id o' x ho' hx)
 · obtain ⟨id, o, q1, q2, q3, q4, q5⟩ := own n b z h1
   obtain ⟨id', o', r1, r2, r3, r4, r5⟩ := own n' b z' h2
   have := h.inj id id' b z z' o o' q2 r2 q3 r3 q4 r4
   subst this
   exact hm.inj _ _ _ q1 r1
 · obtain ⟨id, o, q1, q2, q3, q4, q5⟩ := own n b z h1
   exact ⟨(h.own id b z q2).1, (h.kd id b z o q2 q3 q4).2 q5, id, o, q1, q2, q3, q4, q5⟩
open Classical in
noncomputable def muM (μ μ1 : Mu) (F : List (Nat × Option Nat)) (fr : Nat) (O1 : List (Nat × Ob)) : Mu := fun i =>
 if e : ∃ n, za3 O1 n ≠ none /\ tgt F fr n = i then μ1 (Classical.choose e) else μ i
theorem yoq (hm : ygx g c raw F fr T) (μ1 : Mu) {n : Nat} (hn : za3 T.O1 n ≠ none) : muM μ μ1 F fr T.O1 (tgt F fr n) = μ1 n := by
 unfold muM
 have e : ∃ m, za3 T.O1 m ≠ none /\ tgt F fr m = tgt F fr n := ⟨n, hn, rfl⟩
 rw [dif_pos e]
 have := Classical.choose_spec e
 rw [hm.tgt_inj _ _ this.1 hn this.2]
theorem ydp {μ1 : Mu} {O1 : List (Nat × Ob)} {i : Nat} (hn : ¬ ∃ n, za3 O1 n ≠ none /\ tgt F fr n = i) : muM μ μ1 F fr O1 i = μ i := by
 unfold muM; rw [dif_neg hn]
theorem Sim.mcall (h : Sim base M W nt f g c a w D μ) (hm : ygx g c raw F fr T) {e : Ending} {v : Value} {w' : World} {D' : Nat -> Prop} {μ1 : Mu} (he : yrn D w (zev μ F) T.O T.O1 T.r e v w' D' μ1) :
   ∃ μ', Sim base M W nt f (zb5 g (mOs F fr T)) c a w' D' μ' /\ R w'.heap D' μ' (yt1 F fr T.r) v := by
 obtain ⟨a1, a2, a3, a4⟩ := hm.asks h
 have tin := hm.tgt_inj
 obtain ⟨μ', hμ'⟩ : ∃ μ', μ' = muM μ μ1 F fr T.O1 := ⟨_, rfl⟩
 have m1 : ∀ n, za3 T.O1 n ≠ none -> μ' (tgt F fr n) = μ1 n := fun n hn => by rw [hμ']; exact yoq hm μ1 hn
 have m2 : ∀ i, (¬ ∃ n, za3 T.O1 n ≠ none /\ tgt F fr n = i) -> μ' i = μ i := fun i hn => by rw [hμ']; exact ydp hn
 have m3 : ∀ n y, μ1 n = some y -> μ' (tgt F fr n) = some y := fun n y hy => by
   rw [m1 n (fun e => by rw [(he.dom n).2 e] at hy; cases hy), hy]
 have ext : ∀ id x, μ id = some x -> μ' id = some x := by
   intro id x hx
   by_cases e : ∃ n, za3 T.O1 n ≠ none /\ tgt F fr n = id
   · obtain ⟨n, hn, rfl⟩ := e
     rw [m1 n hn]
     by_cases e2 : ∃ id, za3 F n = some (some id)
     · obtain ⟨id, hid⟩ := e2
       have ht : tgt F fr n = id := by unfold tgt; rw [hid]
       rw [ht] at hx
       rw [he.keep n (hm.dom n _ hid) hn]
       unfold zev; rw [hid]; exact hx
     · have hno : ∀ id, za3 F n ≠ some (some id) := fun id e => e2 ⟨id, e⟩
       have ht : tgt F fr n = fr + n := by
         unfold tgt
         split
         · rename_i id e; exact absurd e (hno id)
         · rfl
       obtain ⟨o, ho⟩ := Option.ne_none_iff_exists'.1 hn
       rw [ht, (h.dom _).2 (hm.fresh n o ho hno)] at hx
       cases hx
   · rw [m2 id e]; exact hx
 have hos1 : ∀ n o, za3 T.O1 n = some o -> zb5 g (mOs F fr T) (tgt F fr n) = some (zyl F fr o) := by
   intro n o ho
   unfold zb5 mOs
   rw [zfg, zp9 tin ho]
 have hos2 : ∀ i, (¬ ∃ n, za3 T.O1 n ≠ none /\ tgt F fr n = i) -> (∃ n, za3 T.O n ≠ none /\ za3 T.O1 n = none /\ za3 F n = some (some i)) -> zb5 g (mOs F fr T) i = some .gone := by
   rintro i hn ⟨n, h1, h2, h3⟩
   unfold zb5 mOs
   rw [zfg]
   cases e : za3 (zmw F fr T.O1) i with
   | some ob =>
     obtain ⟨m, o, q1, q2, _⟩ := zlt e
     exact absurd ⟨m, zpc q1, q2⟩ hn
   | none => simp only; rw [zm4 h1 h2 h3]
 have hos3 : ∀ i, (¬ ∃ n, za3 T.O1 n ≠ none /\ tgt F fr n = i) -> (¬ ∃ n, za3 T.O n ≠ none /\ za3 T.O1 n = none /\ za3 F n = some (some i)) -> zb5 g (mOs F fr T) i = g i := by
   intro i hn hn2
   unfold zb5 mOs
   rw [zfg]
   cases e : za3 (zmw F fr T.O1) i with
   | some ob =>
     obtain ⟨m, o, q1, q2, _⟩ := zlt e
     exact absurd ⟨m, zpc q1, q2⟩ hn
   | none =>
     simp only
     cases e2 : za3 (zgo F T.O1 T.O) i with
     | none => rfl
     | some ob => exact absurd (znz e2).2 hn2
 have alive : ∀ i o, zb5 g (mOs F fr T) i = some o -> o ≠ .gone -> (∃ n o1, za3 T.O1 n = some o1 /\ tgt F fr n = i /\ o = zyl F fr o1) \/ (g i = some o /\ μ' i = μ i /\ ∀ n, za3 F n ≠ some (some i)) := by
   intro i o ho hng
   by_cases e : ∃ n, za3 T.O1 n ≠ none /\ tgt F fr n = i
   · obtain ⟨n, hn, rfl⟩ := e
     obtain ⟨o1, ho1⟩ := Option.ne_none_iff_exists'.1 hn
     rw [hos1 n o1 ho1] at ho
     cases ho
     exact .inl ⟨n, o1, ho1, rfl, rfl⟩
   · by_cases e2 : ∃ n, za3 T.O n ≠ none /\ za3 T.O1 n = none /\ za3 F n = some (some i)
     · rw [hos2 i e e2] at ho; cases ho; exact absurd rfl hng
     · rw [hos3 i e e2] at ho
       refine .inr ⟨ho, m2 i e, fun n hn => ?_⟩
       by_cases e3 : za3 T.O1 n = none
       · exact e2 ⟨n, hm.dom n _ hn, e3, hn⟩
       · exact e ⟨n, e3, by unfold tgt; rw [hn]⟩
 have other : ∀ i o b z, g i = some o -> o ≠ .gone -> μ i = some (some (b, z)) -> (∀ n, za3 F n ≠ some (some i)) -> ∀ n z', zev μ F n ≠ some (some (b, z')) := by
   intro i o b z hi hng hb hno n z' hn
   obtain ⟨_, _, id, o', q1, q2, q3, q4, q5⟩ := a4 n b z' hn
   have := h.inj i id b z z' o o' hb q2 hi q3 hng q4
   subst this
   exact hno n q1
 have hD : ∀ b, D b -> w'.heap[b]? = w.heap[b]? := fun b hb => he.old b (h.dlt b hb) fun n z hn => (a4 n b z hn).2.1 hb
 refine ⟨μ', ?_, yt0 m3 he.val⟩
 exact {
   os := he.os.trans h.os
   tape := he.tape.trans h.tape
   output := he.output.trans h.output
   size := Nat.le_trans h.size he.size
   bs := Nat.le_trans h.bs he.size
   old := fun b h1 h2 => (he.old b (by have := h.bs; omega) fun n z hn => by
     obtain ⟨_, _, id, o', q1, q2, _⟩ := a4 n b z hn
     rcases (h.own id b z q2).2 with q | q
     · omega
     · exact h2 q).trans (h.old b h1 h2)
   defers := h.defers
   tmps := h.tmps
   slots := fun t v hv => (h.slots t v hv).mono hD he.up ext
   dlt := fun b hb => by
     rcases he.dn b hb with q | q | ⟨n, z, q⟩
     · exact Nat.lt_of_lt_of_le (h.dlt b q) he.size
     · exact q.2
     · exact Nat.lt_of_lt_of_le (a4 n b z q).1 he.size
   low := fun b hb hlt => by
     rcases he.dn b hb with q | q | ⟨n, z, q⟩
     · exact h.low b q hlt
     · have := h.bs; omega
     · obtain ⟨_, _, id, o', q1, q2, _⟩ := a4 n b z q
       rcases (h.own id b z q2).2 with q | q
       · omega
       · exact .inr q
   dom := fun i => by
     by_cases e : ∃ n, za3 T.O1 n ≠ none /\ tgt F fr n = i
     · obtain ⟨n, hn, rfl⟩ := e
       obtain ⟨o1, ho1⟩ := Option.ne_none_iff_exists'.1 hn
       rw [m1 n hn, hos1 n o1 ho1, he.dom n, ho1]
       simp
     · rw [m2 i e]
       by_cases e2 : ∃ n, za3 T.O n ≠ none /\ za3 T.O1 n = none /\ za3 F n = some (some i)
       · rw [hos2 i e e2]
         obtain ⟨n, h1, h2, h3⟩ := e2
         obtain ⟨o, ho⟩ := Option.ne_none_iff_exists'.1 h1
         obtain ⟨x, hx, hx2⟩ := hm.obs n o ho
         rw [h3] at hx; cases hx
         obtain ⟨_, o', ho', _⟩ := hx2
         rw [h.dom i, ho']; simp
       · rw [hos3 i e e2]; exact h.dom i
   obs := fun i o x ho hx => by
     by_cases hg : o = .gone
     · subst hg; cases x <;> exact trivial
     rcases alive i o ho hg with ⟨n, o1, q1, rfl, rfl⟩ | ⟨q1, q2, q3⟩
     · rw [m1 n (by rw [q1]; simp)] at hx
       exact yie m3 (he.obs n o1 x q1 hx)
     · rw [q2] at hx
       exact (h.obs i o x q1 hx).mono hD he.up ext (fun b z hx2 _ => he.old b (h.own i b z (by rw [hx, hx2])).1 (other i o b z q1 hg (by rw [hx, hx2]) q3))
   inj := fun i i' b z z' o o' h1 h2 h3 h4 h5 h6 => by
     rcases alive i o h3 h5 with ⟨n, o1, q1, rfl, rfl⟩ | ⟨q1, q2, q3⟩ <;> rcases alive i' o' h4 h6 with ⟨n', o1', q1', rfl, rfl⟩ | ⟨q1', q2', q3'⟩
     · rw [m1 n (by rw [q1]; simp)] at h1
       rw [m1 n' (by rw [q1']; simp)] at h2
       rw [he.inj n n' b z z' h1 h2]
     · rw [m1 n (by rw [q1]; simp)] at h1
       rw [q2'] at h2
       rcases (he.own n b z h1).2.2 with q | ⟨m, z2, q⟩
       · have := (h.own i' b z' h2).1; omega
       · exact absurd q (other i' o' b z' q1' h6 h2 q3' m z2)
     · rw [m1 n' (by rw [q1']; simp)] at h2
       rw [q2] at h1
       rcases (he.own n' b z' h2).2.2 with q | ⟨m, z2, q⟩
       · have := (h.own i b z h1).1; omega
       · exact absurd q (other i o b z q1 h5 h1 q3 m z2)
     · rw [q2] at h1; rw [q2'] at h2
       exact h.inj i i' b z z' o o' h1 h2 q1 q1' h5 h6
   own := fun i b z h1 => by
     by_cases e : ∃ n, za3 T.O1 n ≠ none /\ tgt F fr n = i
     · obtain ⟨n, hn, rfl⟩ := e
       rw [m1 n hn] at h1
       obtain ⟨k1, k2, k3⟩ := he.own n b z h1
       refine ⟨k1, ?_⟩
       rcases k3 with q | ⟨m, z2, q⟩
       · have := h.bs; exact .inl (by omega)
       · obtain ⟨_, _, id, o', q1, q2, _⟩ := a4 m b z2 q
         exact (h.own id b z2 q2).2
     · rw [m2 i e] at h1
       exact ⟨Nat.lt_of_lt_of_le (h.own i b z h1).1 he.size, (h.own i b z h1).2⟩
   kd := fun i b z o h1 h2 h3 => by
     rcases alive i o h2 h3 with ⟨n, o1, q1, rfl, rfl⟩ | ⟨q1, q2, q3⟩
     · rw [m1 n (by rw [q1]; simp)] at h1
       have k := (he.own n b z h1).2.1
       have hc : c (tgt F fr n) = false := by
         by_cases e2 : ∃ id, za3 F n = some (some id)
         · obtain ⟨id, hid⟩ := e2
           have ht : tgt F fr n = id := by unfold tgt; rw [hid]
           obtain ⟨o, ho⟩ := Option.ne_none_iff_exists'.1 (hm.dom n _ hid)
           obtain ⟨x, hx, hx2⟩ := hm.obs n o ho
           rw [hid] at hx; cases hx
           rw [ht]; exact hx2.1
         · have hno : ∀ id, za3 F n ≠ some (some id) := fun id e => e2 ⟨id, e⟩
           have ht : tgt F fr n = fr + n := by
             unfold tgt
             split
             · rename_i id e; exact absurd e (hno id)
             · rfl
           rw [ht]
           cases hc : c (fr + n) with
           | false => rfl
           | true => exact absurd (hm.fresh n o1 q1 hno) (h.icy _ hc)
       exact ⟨fun hx => (by rw [hc] at hx; cases hx), fun _ => k⟩
     · rw [q2] at h1
       obtain ⟨k1, k2⟩ := h.kd i b z o h1 q1 h3
       refine ⟨fun hc => he.up b (k1 hc), fun hc hd => ?_⟩
       rcases he.dn b hd with q | q | ⟨n, z2, q⟩
       · exact k2 hc q
       · have := (h.own i b z h1).1; omega
       · exact other i o b z q1 h3 h1 q3 n z2 q
   ntb := h.ntb
   gl := h.gl
   pin := fun i y hp hy => by
     by_cases e : ∃ n, za3 T.O1 n ≠ none /\ tgt F fr n = i
     · obtain ⟨n, hn, rfl⟩ := e
       by_cases e2 : ∃ id, za3 F n = some (some id)
       · obtain ⟨id, hid⟩ := e2
         have ht : tgt F fr n = id := by unfold tgt; rw [hid]
         rw [m1 n hn, he.keep n (hm.dom n _ hid) hn] at hy
         unfold zev at hy; rw [hid] at hy
         rw [ht] at hp |-
         exact h.pin id y hp hy
       · have hno : ∀ id, za3 F n ≠ some (some id) := fun id e => e2 ⟨id, e⟩
         have ht : tgt F fr n = fr + n := by
           unfold tgt
           split
           · rename_i id e; exact absurd e (hno id)
           · rfl
         obtain ⟨o1, ho1⟩ := Option.ne_none_iff_exists'.1 hn
         rw [ht, hm.unpin n o1 ho1 hno] at hp; cases hp
     · rw [m2 i e] at hy; exact h.pin i y hp hy
   icy := fun i hi => by
     have := h.icy i hi
     by_cases e : ∃ n, za3 T.O1 n ≠ none /\ tgt F fr n = i
     · obtain ⟨n, hn, rfl⟩ := e
       obtain ⟨o1, ho1⟩ := Option.ne_none_iff_exists'.1 hn
       rw [hos1 n o1 ho1]; simp
     · by_cases e2 : ∃ n, za3 T.O n ≠ none /\ za3 T.O1 n = none /\ za3 F n = some (some i)
       · rw [hos2 i e e2]; simp
       · rw [hos3 i e e2]; exact this }
end
theorem zff {α : Type} : ∀ (xs : List α) (i t : Nat), za3 (zyx i xs) t = if i <= t then xs[t - i]? else none
 | [], i, t => by simp [zyx, za3]
 | x :: xs, i, t => by
   unfold zyx za3
   cases e : zat i t with
   | true => have := za4 e; subst this; simp
   | false =>
     have hne : i ≠ t := by rintro rfl; rw [za6] at e; cases e
     simp only
     rw [zff xs (i + 1) t]
     by_cases h : i <= t
     · rw [if_pos (by omega), if_pos h]
       obtain ⟨k, hk⟩ : ∃ k, t - i = k + 1 := ⟨t - i - 1, by omega⟩
       rw [hk, show t - (i + 1) = k by omega]
       simp
     · rw [if_neg (by omega), if_neg h]
theorem zfv {objs : List (Nat × Ob)} {F : List (Nat × Option Nat)} {fr : Nat} : ∀ {O1 : List (Nat × Ob)}, zju objs F fr O1 = true -> ∀ n o, za3 O1 n = some o -> (∀ id, za3 F n ≠ some (some id)) -> za3 objs (fr + n) = none /\ zfu (fr + n) = false
 | [], _, n, o, h, _ => by cases h
 | (m, o') :: r, e, n, o, h, hno => by
   unfold zju at e
   unfold za3 at h
   split at e
   · rename_i id hid
     split at h
     · rename_i hb
       rw [za4 hb] at hid
       exact absurd hid (hno id)
     · exact zfv e n o h hno
   · split at e
     · rename_i hf hp
       split at h
       · rename_i hb; rw [za4 hb] at hf hp; exact ⟨hf, hp⟩
       · exact zfv e n o h hno
     · cases e
theorem zdb : ∀ {O1 : List (Nat × Ob)}, zw2 O1 = true -> ∀ n, za3 O1 n ≠ some .gone
 | [], _, n => by simp [za3]
 | (m, o) :: r, e, n => by
   unfold za3
   unfold zw2 at e
   cases o with
   | gone => cases e
   | box _ _ =>
     split
     · simp
     · exact zdb e n
   | row _ _ _ _ =>
     split
     · simp
     · exact zdb e n
   | spr _ _ =>
     split
     · simp
     · exact zdb e n
   | map _ _ _ _ =>
     split
     · simp
     · exact zdb e n
   | mapl _ _ =>
     split
     · simp
     · exact zdb e n
   | mapq _ =>
     split
     · simp
     · exact zdb e n
theorem yj7 {s : St} {raw : List AV} {T : yrm} {m : zcr} {fr : Nat} (e : yos s raw T = some m) (hf : zju s.objs m.ids fr T.O1 = true) (hp : ∀ p, p ∈ m.ps -> p) : ygx (za3 s.objs) (zbu s.ice) raw m.ids fr T := by
 unfold yos at e
 split at e
 · rename_i hlen
   have hlen := za4 hlen
   rw [zal, zal] at hlen
   split at e
   · rename_i m1 e1
     split at e
     · rename_i m2 e2
       split at e
       · rename_i h3 h4
         cases e
         have x1 := fun h D μ a => zen (h := h) (D := D) (μ := μ) (a := a) e1
         have x2 := fun h D μ => zdc (h := h) (D := D) (μ := μ) e2
         have F0 : Fin m m.ids := ⟨fun _ _ h => h, hp⟩
         have X1 := (x1 #[] (fun _ => False) zav ⟨#[], []⟩).1
         have X2 := (x2 #[] (fun _ => False) zav).1
         refine { len := hlen, xs := fun h D μ vs hr => ?_, inj := X2.inj (X1.inj (fun t t' id h => by cases h)), dom := fun n x hx => ziq h3 n x hx, obs := fun n o ho => ?_, fresh := fun n o h1 h2 => (zfv hf n o h1 h2).1, unpin := fun n o h1 h2 => (zfv hf n o h1 h2).2, ng := zdb h4 }
         · refine ⟨by rw [<- hlen]; exact hr.1, fun i x v hx hv => ?_⟩
           have := (x1 h D μ ⟨vs, []⟩).2 m.ids (F0.of X2) (fun t u hu => by
             rw [zff, if_pos (by omega), Nat.sub_zero] at hu
             have hlt : t < vs.size := by rw [<- hr.1]; exact (List.getElem?_eq_some_iff.1 hu).1
             have h1 : vs[t]? = some vs[t] := by simp [hlt]
             have h2 : vs.getD t undef = vs[t] := by rw [Array.getD_eq_getD_getElem?, h1]; rfl
             rw [h2]
             exact hr.2 t u _ hu h1) i x (by rw [zff, if_pos (by omega), Nat.sub_zero]; exact hx)
           have h2 : vs.getD i undef = v := by rw [Array.getD_eq_getD_getElem?, hv]; rfl
           rw [h2] at this
           exact this
         · obtain ⟨x, hx, _⟩ := ((x2 #[] (fun _ => False) zav).2 m.ids F0 n o ho).pair
           refine ⟨x, hx, ?_⟩
           cases x with
           | none =>
             intro h D μ
             obtain ⟨y, hy, hy2⟩ := ((x2 h D μ).2 m.ids F0 n o ho).pair
             rw [hx] at hy; cases hy; exact hy2
           | some id =>
             have hh := fun h D μ => ((x2 h D μ).2 m.ids F0 n o ho).pair
             obtain ⟨y, hy, hy2⟩ := hh #[] (fun _ => False) zav
             rw [hx] at hy; cases hy
             obtain ⟨q1, o', q2, q3, _⟩ := hy2
             refine ⟨?_, o', q2, q3, fun h D μ z hz => ?_⟩
             · cases hc : zbu s.ice id with
               | false => rfl
               | true => exact absurd (q1 hc) (by simp [zbu])
             · obtain ⟨y, hy, hy2⟩ := hh h D μ
               rw [hx] at hy; cases hy
               obtain ⟨_, o2, r2, _, r4⟩ := hy2
               rw [q2] at r2; cases r2
               exact r4 z hz
       · cases e
     · cases e
   · cases e
 · cases e
def ymy (P : Program) (f : Nat -> Option AV) (g : Nat -> Option Ob) (c : Nat -> Bool) (o : Oper) (v : AV) (os : List (Nat × Ob)) : Prop :=
 ∃ fo xs ts k first caps zs F fr T, o.op = .call { callee := .value fo, args := xs, argTypes := ts } /\ zck (evf f []) (zbm o.op) = .fn k first caps :: zs /\ zbj P k T.xs T.O T.r T.O1 /\
   ygx g c (zcb first (zcb zs caps)) F fr T /\ v = yt1 F fr T.r /\ os = mOs F fr T
theorem zph : ∀ {os : List (Nat × Ob)} {id : Nat}, za3 os id ≠ none -> id ∈ zzb os
 | [], id, h => by simp [za3] at h
 | (i, o) :: r, id, h => by
   unfold za3 at h
   unfold zzb
   split at h
   · rename_i e; rw [za4 e]; simp
   · exact List.mem_cons_of_mem _ (zph h)
theorem ygx.congr {g g' : Nat -> Option Ob} {c c' : Nat -> Bool} {raw : List AV} {F : List (Nat × Option Nat)} {fr : Nat} {T : yrm} (hm : ygx g c raw F fr T) (hg : ∀ id, id ∈ zzb (mOs F fr T) -> g' id = g id) (hc : ∀ id, id ∈ zzb (mOs F fr T) -> c' id = c id) : ygx g' c' raw F fr T := by
 have tin := hm.tgt_inj
 have k1 : ∀ n, za3 T.O1 n ≠ none -> tgt F fr n ∈ zzb (mOs F fr T) := by
   intro n hn
   obtain ⟨o1, ho1⟩ := Option.ne_none_iff_exists'.1 hn
   refine zph ?_
   unfold mOs
   rw [zfg, zp9 tin ho1]; simp
 have k2 : ∀ n id, za3 F n = some (some id) -> id ∈ zzb (mOs F fr T) := by
   intro n id hid
   by_cases e : za3 T.O1 n = none
   · refine zph ?_
     unfold mOs
     rw [zfg]
     cases za3 (zmw F fr T.O1) id with
     | some _ => simp
     | none => simp only; rw [zm4 (hm.dom n _ hid) e hid]; simp
   · have := k1 n e
     unfold tgt at this
     rwa [hid] at this
 refine { len := hm.len, xs := hm.xs, inj := hm.inj, dom := hm.dom, obs := fun n o ho => ?_, fresh := fun n o ho hno => ?_, unpin := hm.unpin, ng := hm.ng }
 · obtain ⟨x, hx, hx2⟩ := hm.obs n o ho
   refine ⟨x, hx, ?_⟩
   cases x with
   | none => exact hx2
   | some id =>
     have := k2 n id hx
     show c' id = false /\ ∃ o', g' id = some o' /\ _
     rw [hg id this, hc id this]
     exact hx2
 · have : tgt F fr n = fr + n := by
     unfold tgt
     split
     · rename_i id e; exact absurd e (hno id)
     · rfl
   have k := k1 n (by rw [ho]; simp)
   rw [this] at k
   rw [hg _ k]
   exact hm.fresh n o ho hno
section
variable {P : Program} {base : Nat} {M : Two} {W : World} {nt : Nat} {f : Nat -> Option AV} {g : Nat -> Option Ob} {c : Nat -> Bool} {a : Act} {w : World} {D : Nat -> Prop} {μ : Mu} {o : Oper}
theorem adv_M (h : Sim base M W nt f g c a w D μ) (hd : ∀ d, o.dst = some d -> d < nt) (hpl : ∀ x ∈ zbm o.op, ∀ v, x = .const v -> zie v = true) {v : AV} {os : List (Nat × Ob)} (hh : ymy P f g c o v os) : Adv P base M W nt f g c o a w v os [] := by
 obtain ⟨fo, xs, ts, k, first, caps, zs, F, fr, T, e, hvals, hM, hm, rfl, rfl⟩ := hh
 have hv : ∀ l : List Operand, (∀ x ∈ l, ∀ v, x = .const v -> zie v = true) -> Ops w.heap D μ a l (zck (evf f []) l) := by
   intro l
   induction l with
   | nil => intro _; trivial
   | cons x l ih => intro hp; exact ⟨yqa h (fun t b ht => by simp [za3] at ht) x (fun v hv => hp x (by simp) v hv), ih (fun y hy => hp y (by simp [hy]))⟩
 have hv := hv _ hpl
 rw [hvals] at hv
 rw [e] at hv
 simp only [zbm] at hv
 obtain ⟨hf, hv⟩ := hv
 intro K Q hK
 obtain ⟨o1, o2⟩ := zvu hv
 obtain ⟨vs, us, hfv, e1, e2, r1, r2⟩ : ∃ vs us, a.eval fo = .func (.func k) vs us /\ first.length = vs.size /\ caps.length = us.size /\ (∀ (i : Nat) x v, first[i]? = some x -> vs[i]? = some v -> R w.heap D μ x v) /\ (∀ (i : Nat) x v, caps[i]? = some x -> us[i]? = some v -> R w.heap D μ x v) := by
   generalize a.eval fo = u at hf
   cases hf with
   | fn _ _ _ vs us e1 e2 h1 h2 => exact ⟨vs, us, rfl, e1, e2, h1, h2⟩
 have hl : zs.length = xs.size := by rw [o1]; simp
 have hsz : (zcb first (zcb zs caps)).length = ((vs ++ xs.map a.eval) ++ us).size := by rw [zau, zau]; simp [e1, e2, hl]
 have hraw : ∀ (i : Nat) y v, (zcb first (zcb zs caps))[i]? = some y -> ((vs ++ xs.map a.eval) ++ us)[i]? = some v -> R w.heap D μ y v := by
   intro i x v hx hv'
   rw [zau, zau] at hx
   rw [Array.append_assoc] at hv'
   by_cases i1 : i < first.length
   · rw [List.getElem?_append_left i1] at hx
     rw [Array.getElem?_append_left (by omega)] at hv'
     exact r1 i x v hx hv'
   · rw [List.getElem?_append_right (by omega)] at hx
     rw [Array.getElem?_append_right (by omega)] at hv'
     rw [e1] at hx
     by_cases i2 : i - vs.size < zs.length
     · rw [List.getElem?_append_left i2] at hx
       rw [Array.getElem?_append_left (by simp; omega)] at hv'
       have i3 : i - vs.size < xs.size := by omega
       simp [i3] at hv'
       subst hv'
       exact o2 _ x _ hx (by simp [i3])
     · rw [List.getElem?_append_right (by omega)] at hx
       rw [Array.getElem?_append_right (by simp; omega)] at hv'
       simp only [Array.size_map, <- hl] at hv'
       exact r2 _ x v hx hv'
 have hRL : RL w.heap D (zev μ F) T.xs ((vs ++ xs.map a.eval) ++ us) := hm.xs _ _ _ _ ⟨hsz, hraw⟩
 obtain ⟨a1, a2, a3, a4⟩ := hm.asks h
 have hcall := hM D w _ _ h.dlt hRL a1 a2 a3 (fun n b z hn => ⟨(a4 n b z hn).1, (a4 n b z hn).2.1⟩) h.gok (fun n b z hn => by
   obtain ⟨_, _, id, _, _, hid, _⟩ := a4 n b z hn
   exact h.gown hid)
 have fin : ∀ e v w' D' μ1, yrn D w (zev μ F) T.O T.O1 T.r e v w' D' μ1 -> K (a.put o.dst v) w' := by
   intro e v w' D' μ1 he
   obtain ⟨μ', h', hr⟩ := h.mcall hm he
   exact hK _ _ ⟨_, _, h'.put hd hr⟩
 unfold Oper.wp
 have hrun : (execOp a.eval o).run P w = (callFunc k ((vs ++ xs.map a.eval) ++ us)).run P w := by
   unfold execOp
   rw [e]
   simp [resolve, hfv, Deferred.ofValue, invoke]
 rw [hrun]
 unfold zek at hcall
 split at hcall
 · rename_i f' args' w' hcf
   rw [hcf, Oper.upon_enter]
   refine hcall.mono fun en w'' hen => ?_
   obtain ⟨v, D', μ1, he⟩ := hen
   obtain rfl := he.ret
   exact fin _ v w'' D' μ1 he
 · rename_i v w' hcf
   rw [hcf, Oper.upon_value]
   obtain ⟨v', D', μ1, he⟩ := hcall
   have := he.ret
   cases this
   exact fin _ _ w' D' μ1 he
 · exact hcall.elim
end
end Sy
end Go.Proofs.YtogpolfhcbgcbaaGreatDoor
namespace Go.Proofs.YtogpolfhcbgcbaaGreatDoor
namespace Sy
open Go Go.RowKit
set_option linter.unusedSimpArgs false
set_option linter.unusedVariables false
set_option linter.unusedSectionVars false
def zi1 {β : Type} (L : Nat -> Bool) (hit : Nat -> Option β) (s : Option β) : Nat -> Option β
 | 0 => s
 | n + 1 => if L n = true then (match hit n with | some x => some x | none => zi1 L hit s n) else zi1 L hit s n
theorem zlz {β : Type} (L : Nat -> Bool) (hit : Nat -> Option β) (s : Option β) (n : Nat) : zi1 L hit s (n + 1) = if L n = true then (match hit n with | some x => some x | none => zi1 L hit s n) else zi1 L hit s n := rfl
theorem zcu {β : Type} {L L' : Nat -> Bool} {hit : Nat -> Option β} {s : Option β} : ∀ n, (∀ j, j < n -> hit j ≠ none -> L j = L' j) -> zi1 L hit s n = zi1 L' hit s n
 | 0, _ => rfl
 | n + 1, h => by
   unfold zi1
   have ih := zcu n (fun j hj => h j (by omega)) (s := s)
   cases e : hit n with
   | none => simp [ih]
   | some x =>
     rw [h n (by omega) (by rw [e]; simp), ih]
theorem zio {β : Type} {L : Nat -> Bool} {hit : Nat -> Option β} {s : Option β} (i : Nat) : ∀ n, (∀ j, i <= j -> j < n -> L j = true -> hit j = none) -> i <= n -> zi1 L hit s n = zi1 L hit s i
 | 0, _, hi => by have : i = 0 := by omega
                  rw [this]
 | n + 1, h, hi => by
   by_cases e : i = n + 1
   · rw [e]
   · have ih := zio i n (fun j h1 h2 => h j h1 (by omega)) (by omega) (s := s)
     rw [zlz]
     by_cases hL : L n = true
     · rw [if_pos hL, h n (by omega) (by omega) hL]; exact ih
     · rw [if_neg hL]; exact ih
theorem zm0 {β : Type} {hit : Nat -> Option β} {s : Option β} (i : Nat) : ∀ n, i <= n -> zi1 (fun j => decide (j < i)) hit s n = zi1 (fun _ => true) hit s i := fun n hn => by
 rw [zio i n (fun j h1 _ h3 => by simp at h3; omega) hn]
 exact zcu i (fun j hj _ => by simp [hj])
theorem zpg {β : Type} {L L' : Nat -> Bool} {hit : Nat -> Option β} {s : Option β} {i : Nat} (hi : L' i = true) (hL : L i = false) (hne : ∀ j, j ≠ i -> L' j = L j) : ∀ n, i < n ->
   (hit i ≠ none -> ∀ j, i < j -> j < n -> L j = true -> hit j = none) -> zi1 L' hit s n = (match hit i with | some x => some x | none => zi1 L hit s n)
 | 0, h, _ => by omega
 | n + 1, h, hc => by
   by_cases e : n = i
   · subst e
     have : zi1 L' hit s n = zi1 L hit s n := zcu n (fun j hj _ => hne j (by omega))
     unfold zi1
     rw [if_pos hi, hL, this]
     simp
   · have ih := zpg hi hL hne n (by omega) (fun h1 j h2 h3 => hc h1 j h2 (by omega)) (s := s)
     unfold zi1
     rw [hne n e, ih]
     cases hh : hit i with
     | none => rfl
     | some x =>
       simp only
       by_cases hLn : L n = true
       · rw [if_pos hLn, hc (by rw [hh]; simp) n (by omega) (by omega) hLn]
       · rw [if_neg hLn]
def zn6 (L : Nat -> Bool) (p : Nat -> Bool) (s : Bool) : Nat -> Bool
 | 0 => s
 | n + 1 => (L n && p n) || zn6 L p s n
theorem zs9 (L p : Nat -> Bool) (s : Bool) (n : Nat) : zn6 L p s (n + 1) = ((L n && p n) || zn6 L p s n) := rfl
theorem zfe {L L' p : Nat -> Bool} {s : Bool} : ∀ n, (∀ j, j < n -> p j = true -> L j = L' j) -> zn6 L p s n = zn6 L' p s n
 | 0, _ => rfl
 | n + 1, h => by
   unfold zn6
   rw [zfe n (fun j hj => h j (by omega))]
   cases e : p n with
   | false => simp
   | true => rw [h n (by omega) e]
theorem zmn {L p : Nat -> Bool} {s : Bool} (i : Nat) : ∀ n, (∀ j, i <= j -> j < n -> L j = false) -> i <= n -> zn6 L p s n = zn6 L p s i
 | 0, _, hi => by have : i = 0 := by omega
                  rw [this]
 | n + 1, h, hi => by
   by_cases e : i = n + 1
   · rw [e]
   · rw [zs9, h n (by omega) (by omega), zmn i n (fun j h1 h2 => h j h1 (by omega)) (by omega)]
     simp
theorem ygq {p : Nat -> Bool} {s : Bool} (i : Nat) : ∀ n, i <= n -> zn6 (fun j => decide (j < i)) p s n = zn6 (fun _ => true) p s i := fun n hn => by
 rw [zmn i n (fun j h1 _ => by simp; omega) hn]
 exact zfe i (fun j hj _ => by simp [hj])
theorem zxi {L L' p : Nat -> Bool} {s : Bool} {i : Nat} (hi : L' i = true) (hL : L i = false) (hne : ∀ j, j ≠ i -> L' j = L j) : ∀ n, i < n -> zn6 L' p s n = (p i || zn6 L p s n)
 | 0, h => by omega
 | n + 1, h => by
   by_cases e : n = i
   · subst e
     have : zn6 L' p s n = zn6 L p s n := zfe n (fun j hj _ => hne j (by omega))
     unfold zn6
     rw [hi, hL, this]; simp
   · unfold zn6
     rw [hne n e, zxi hi hL hne n (by omega)]
     cases L n && p n <;> cases p i <;> simp
theorem zl2 {T : TT} {L : zab} {f f' : Nat -> Option AV} {g g' : Nat -> Option Ob} {c c' : Nat -> Bool} {kn kn' : List (Nat × Bool)} {o : Oper} (hv : zck (evf f kn) (zbm o.op) = zck (evf f' kn') (zbm o.op))
   (hg : ∀ id, id ∈ yry o.op (zck (evf f' kn') (zbm o.op)) -> g id = g' id) (hn : zcq o.op = true -> ∀ d, o.dst = some d -> g d = g' d)
   (hc : zoj o.op = true -> ∀ id, id ∈ yk7 (zck (evf f' kn') (zbm o.op)) -> c id = c' id) : zkb T L f g c kn o = zkb T L f' g' c' kn' o := by
 unfold zkb
 rw [hv]
 have e1 : yrv g (yry o.op (zck (evf f' kn') (zbm o.op))) = yrv g' (yry o.op (zck (evf f' kn') (zbm o.op))) := by
   funext id
   unfold yrv
   split
   · rename_i h; exact hg id (zc9.1 h)
   · rfl
 have e2 : zzm c o.op (zck (evf f' kn') (zbm o.op)) = zzm c' o.op (zck (evf f' kn') (zbm o.op)) := by
   funext id
   unfold zzm
   split
   · rename_i h
     split
     · rename_i h2; exact hc h id (zc9.1 h2)
     · rfl
   · rfl
 have e3 : zdi g o.op o.dst = zdi g' o.op o.dst := by
   unfold zdi
   split
   · rename_i h
     split
     · rename_i d hd; rw [hn h d hd]
     · rfl
   · rfl
 rw [e1, e2, e3]
def zn8 (f : Nat -> Option AV) (kn : List (Nat × Bool)) : Prop := ∀ t b, za3 kn t = some b -> f t = some (.bool b)
theorem ymk {f : Nat -> Option AV} {kn : List (Nat × Bool)} (h : zn8 f kn) (x : Operand) : evf f kn x = evf f [] x := by
 unfold evf
 cases x with
 | tmp t =>
   simp only [za3]
   cases e : za3 kn t with
   | none => rfl
   | some b => simp [h t b e]
 | _ => rfl
theorem zh3 {α β : Type} {k k' : α -> β} : ∀ {l : List α}, (∀ x ∈ l, k x = k' x) -> zck k l = zck k' l
 | [], _ => rfl
 | x :: l, h => by simp [zck, h x (by simp), zh3 (l := l) (fun y hy => h y (by simp [hy]))]
inductive Holds (P : Program) : zcj -> AV -> List (Nat × Ob) -> List Nat -> Prop
 | ok (v : AV) (os : List (Nat × Ob)) (ice : List Nat) : Holds P (.ok v os ice) v os ice
 | okIf (b : Bool) (v : AV) (os : List (Nat × Ob)) (ice : List Nat) (h : b = true) : Holds P (.okIf b v os ice) v os ice
 | okP (p : Prop) (v : AV) (os : List (Nat × Ob)) (ice : List Nat) (h : p) : Holds P (.okP p v os ice) v os ice
 | call (k : FuncId) (xs : List AV) (ice : List Nat) (r : AV) (h : zad P k xs r) : Holds P (.call k xs ice) r [] ice
 | alt1 (b : Bool) (v : AV) (os : List (Nat × Ob)) (q : Bool) (v' : AV) (os' : List (Nat × Ob)) (h : b = true) : Holds P (.alt b v os q v' os') v os []
 | alt2 (b : Bool) (v : AV) (os : List (Nat × Ob)) (q : Bool) (v' : AV) (os' : List (Nat × Ob)) (h : b = false) (hq : q = true) : Holds P (.alt b v os q v' os') v' os' []
theorem yvo {P : Program} {base : Nat} {M : Two} {W : World} {nt : Nat} {f : Nat -> Option AV} {g : Nat -> Option Ob} {c : Nat -> Bool} {o : Oper} {a : Act} {w : World} {x : zcj} {v : AV} {os : List (Nat × Ob)} {ice : List Nat}
   (h : Holds P x v os ice) (s : zc7 P base M W nt f g c o a w x) : Adv P base M W nt f g c o a w v os ice := by
 cases h with
 | ok => exact s
 | okIf _ _ _ _ h => exact s h
 | okP _ _ _ _ h => exact s h
 | call _ _ _ _ h => exact s _ h
 | alt1 _ _ _ _ _ _ h => exact s.1 h
 | alt2 _ _ _ _ _ _ h hq => exact s.2 h hq
inductive Sat (P : Program) (Q : AV -> Prop) : zc6 -> Prop
 | need {b : Bool} {k : zc6} (h : b = true) (hk : Sat P Q k) : Sat P Q (.need b k)
 | must {p : Prop} {k : zc6} (h : p) (hk : Sat P Q k) : Sat P Q (.must p k)
 | ite {b : Bool} {t e : zc6} (ht : b = true -> Sat P Q t) (he : b = false -> Sat P Q e) : Sat P Q (.ite b t e)
 | done {r : AV} (h : Q r) : Sat P Q (.done r)
 | yes : Sat P Q .yes
 | call {f : FuncId} {xs : List AV} {k : AV -> zc6} {r : AV} (h : zad P f xs r) (hk : Sat P Q (k r)) : Sat P Q (.call f xs k)
 | ex {X : Type} {f : X -> zc6} (x : X) (h : Sat P Q (f x)) : Sat P Q (.ex X f)
 | all {X : Type} {f : X -> zc6} (h : ∀ x, Sat P Q (f x)) : Sat P Q (.all X f)
 | sup {p : Prop} {k : zc6} (h : p -> Sat P Q k) : Sat P Q (.sup p k)
 | and {a b : zc6} (h1 : Sat P Q a) (h2 : Sat P Q b) : Sat P Q (.and a b)
structure zdr (P : Program) (S : zqc) : Prop where
 fz : ∀ f xs p r, S.fz f xs = some (p, r) -> p -> zad P f xs r
 mt : ∀ f m, S.mt f = some m -> ∀ raw ob T, m raw ob = some T -> T.p -> zbj P f T.xs T.O T.r T.O1
theorem zi8 {P : Program} {Q : AV -> Prop} {next : zc6} : ∀ {ps : List Prop}, Sat P Q (yj3 ps next) -> (∀ p, p ∈ ps -> p) /\ Sat P Q next
 | [], h => ⟨fun p hp => by simp at hp, h⟩
 | p :: r, h => by
   cases h with
   | must h hk =>
     obtain ⟨h1, h2⟩ := zi8 hk
     exact ⟨fun q hq => by rcases List.mem_cons.1 hq with rfl | hq; exact h; exact h1 q hq, h2⟩
theorem yjn {P : Program} {T : TT} {f : Nat -> Option AV} {g : Nat -> Option Ob} {c : Nat -> Bool} {kn : List (Nat × Bool)} {o : Oper} {b : Bool} (h : zrc kn o.op = some b) {v : AV} {os : List (Nat × Ob)} {ice : List Nat}
   (hh : Holds P (zkb T std f g c kn o) v os ice) : v = .bool b := by
 have lit : ∀ x b, litOf kn x = some b -> evf f kn x = .bool b := by
   intro x b hx
   unfold litOf at hx
   split at hx
   · cases hx; rfl
   · rename_i t
     simp [evf, hx]
   · cases hx
 unfold zrc at h
 unfold zkb core at hh
 split at h
 · rename_i x e
   rw [e] at hh
   simp only [zbm, zck, yg3, lit x b h] at hh
   cases hh; rfl
 · rename_i x e
   rw [e] at hh
   simp only [zbm, zck, yg3, lit x b h] at hh
   cases hh; rfl
 · rename_i x y z e
   rw [e] at hh
   simp only [zbm, zck] at hh
   split at h
   · rename_i hc
     rw [lit x _ hc, lit y b h] at hh
     simp only [yg2] at hh
     cases hh; rfl
   · rename_i hc
     rw [lit x _ hc, lit z b h] at hh
     simp only [yg2] at hh
     cases hh; rfl
   · cases h
 · cases h
theorem zsd {kn : List (Nat × Bool)} {d t : Nat} : za3 (yp0 kn d) t = if t = d then none else za3 kn t := by
 induction kn with
 | nil => simp [yp0, za3]
 | cons x kn ih =>
   obtain ⟨u, b⟩ := x
   unfold yp0
   cases e : zat u d with
   | true =>
     simp only [ih]
     have := za4 e; subst this
     by_cases ht : t = u
     · simp [ht]
     · have : zat u t = false := zan fun h => ht h.symm
       simp [ht, za3, this]
   | false =>
     simp only [za3]
     cases e' : zat u t with
     | true =>
       have := za4 e'; subst this
       have : u ≠ d := by rintro rfl; rw [za6] at e; cases e
       simp [this]
     | false => simpa using ih
theorem zkw (s : St) (dst : Option Nat) (v : AV) : za3 (s.put dst v) = zn3 (za3 s.slots) dst v := by
 funext t
 unfold St.put zn3
 cases dst with
 | none => rfl
 | some d =>
   simp only [za3]
   by_cases e : t = d
   · subst e; simp [za6]
   · have : zat d t = false := zan fun h => e h.symm
     simp [this, e]
theorem yle {α : Type} (os l : List (Nat × α)) (id : Nat) : za3 (zcb os l) id = match za3 os id with | some o => some o | none => za3 l id := zfg os l id
theorem zse (os l : List (Nat × Ob)) : za3 (zcb os l) = zb5 (za3 l) os := by
 funext id; rw [yle]; unfold zb5; cases za3 os id <;> rfl
theorem yji (os l : List Nat) : ∀ id, zbu (zcb os l) id = (zbu os id || zbu l id) := by
 intro id
 induction os with
 | nil => simp [zcb, zbu]
 | cons x os ih =>
   simp only [zcb, zbu]
   cases zat x id <;> simp [ih]
theorem zrb (os l : List Nat) : zbu (zcb os l) = zkv (zbu l) os := by
 funext id; rw [yji]; rfl
theorem zwk {f : Nat -> Option AV} {kn : List (Nat × Bool)} (h : zn8 f kn) {dst : Option Nat} {v : AV} {x : Option Bool} (hx : ∀ b, x = some b -> v = .bool b) : zn8 (zn3 f dst v) (ytx kn dst x) := by
 intro t b ht
 unfold ytx at ht
 cases dst with
 | none => exact h t b ht
 | some d =>
   simp only [zn3]
   cases x with
   | none =>
     simp only at ht
     rw [zsd] at ht
     split at ht
     · cases ht
     · rename_i e; rw [if_neg e]; exact h t b ht
   | some y =>
     simp only [za3] at ht
     cases e : zat d t with
     | true =>
       rw [e] at ht
       have := za4 e; subst this
       cases ht
       rw [if_pos rfl, hx _ rfl]
     | false =>
       rw [e] at ht
       simp only at ht
       rw [zsd] at ht
       split at ht
       · cases ht
       · rename_i e; rw [if_neg e]; exact h t b ht
theorem zef {f : Nat -> Option AV} {kn : List (Nat × Bool)} (h : zn8 f kn) {t : Nat} {b : Bool} (hx : f t = some (.bool b)) : zn8 f ((t, b) :: kn) := by
 intro u y hu
 simp only [za3] at hu
 cases e : zat t u with
 | true =>
   rw [e] at hu
   have := za4 e; subst this
   cases hu; exact hx
 | false => rw [e] at hu; exact h u y hu
def zmp (base : Nat) (M : Two) (W : World) (nt : Nat) (s : St) (a : Act) (w : World) : Prop :=
 zhy base M W nt (za3 s.slots) (za3 s.objs) (zbu s.ice) a w /\ zn8 (za3 s.slots) s.kn
structure Ev where
 want : Bool
 v : AV
 os : List (Nat × Ob)
 ice : List Nat
 ent : Ent
def nothing : Ev := ⟨false, .tup [], [], [], ⟨[], []⟩⟩
def zsh (P : Program) (T : TT) (f : Nat -> Option AV) (g : Nat -> Option Ob) (c : Nat -> Bool) (o : Oper) (e : Ev) : Prop :=
 Holds P (zkb T std f g c [] o) e.v e.os e.ice \/ (ymy P f g c o e.v e.os /\ e.ice = [])
structure ywh (P : Program) (T : TT) (ops : List Oper) (f : Nat -> Option AV) (g : Nat -> Option Ob) (c : Nat -> Bool) (o : Oper) (e : Ev) : Prop where
 guard : match zhu ops o with
   | none => e.want = true
   | some (some t, w) => (∃ b, f t = some (.bool b) /\ e.want = (b == w)) \/ (f t = some (.tup []) /\ e.want = false)
   | some (none, _) => False
 no : e.want = false -> e.v = .tup [] /\ e.os = [] /\ e.ice = [] /\ e.ent = ⟨[], []⟩
 yes : e.want = true -> zsh P T f g c o e
def yli (f : Nat -> Option AV) (o : Oper) (e : Ev) : Prop := e.want = true ->
 (∀ id, id ∈ yry o.op (zck (evf f []) (zbm o.op)) -> id ∈ e.ent.ids) /\ (zcq o.op = true -> ∀ d, o.dst = some d -> d ∈ e.ent.ids) /\ (∀ id, id ∈ e.ice -> id ∈ e.ent.ids) /\
 (∀ id, id ∈ zzb e.os -> id ∈ e.ent.wr) /\ (zoj o.op = true -> ∀ id, id ∈ yk7 (zck (evf f []) (zbm o.op)) -> id ∈ e.ent.wr)
def ylf (ops : List Oper) (o : Oper) (e : Ev) (acc : List (Nat × Ent)) : Prop := e.want = true -> zjl ops o.after.toList e.ent acc = true
def zz0 (acc : List (Nat × Ent)) (i : Nat) (e : Ev) : List (Nat × Ent) := if e.want = true then zw1 acc i e.ent else acc
def Walk (P : Program) (T : TT) (draw : Bool) (ops : List Oper) : List Oper -> Nat -> (Nat -> Option AV) -> (Nat -> Option Ob) -> (Nat -> Bool) -> List (Nat × Ent) -> List Ev -> (Nat -> Option AV) -> (Nat -> Option Ob) -> (Nat -> Bool) -> Prop
 | [], _, f, g, c, _, [], f', g', c' => f' = f /\ g' = g /\ c' = c
 | o :: r, i, f, g, c, acc, e :: es, f', g', c' => ywh P T ops f g c o e /\ (draw = true -> yli f o e /\ ylf ops o e acc) /\
     Walk P T draw ops r (i + 1) (zn3 f o.dst e.v) (zb5 g e.os) (zkv c e.ice) (if draw = true then zz0 acc i e else acc) es f' g' c'
 | _, _, _, _, _, _, _, _, _, _ => False
section
variable {P : Program} {T : TT} {S : zqc} {Q : AV -> Prop} {draw : Bool} {ops : List Oper}
theorem ynb {f : Nat -> Option AV} {g : Nat -> Option Ob} {c : Nat -> Bool} {kn : List (Nat × Bool)} (h : zn8 f kn) (L : zab) (o : Oper) : zkb T L f g c kn o = zkb T L f g c [] o :=
 zl2 (zh3 fun x _ => ymk h x) (fun _ _ => rfl) (fun _ _ _ => rfl) (fun _ _ _ => rfl)
theorem zzs (hS : zdr P S) {o : Oper} {i : Nat} {s : St} {acc : List (Nat × Ent)} {next : St -> List (Nat × Ent) -> zc6} (hk : zn8 (za3 s.slots) s.kn)
   (h : Sat P Q (zrx T std S draw ops o i s acc next)) : ∃ e : Ev, e.want = true /\ zsh P T (za3 s.slots) (za3 s.objs) (zbu s.ice) o e /\ (draw = true -> yli (za3 s.slots) o e /\ ylf ops o e acc) /\
     ∃ s', za3 s'.slots = zn3 (za3 s.slots) o.dst e.v /\ za3 s'.objs = zb5 (za3 s.objs) e.os /\ zbu s'.ice = zkv (zbu s.ice) e.ice /\ zn8 (za3 s'.slots) s'.kn /\ Sat P Q (next s' (if draw = true then zz0 acc i e else acc)) := by
 have hval : zck (evf (za3 s.slots) s.kn) (zbm o.op) = zck (evf (za3 s.slots) []) (zbm o.op) := zh3 fun x _ => ymk hk x
 have key : ∀ v os ice, (∀ ent, zsh P T (za3 s.slots) (za3 s.objs) (zbu s.ice) o ⟨true, v, os, ice, ent⟩) -> (∀ b, zrc s.kn o.op = some b -> v = .bool b) ->
     Sat P Q (zgu draw ops o i s acc (zzl draw s o) (ys8 draw s o) v os ice next) -> ∃ e : Ev, e.want = true /\ zsh P T (za3 s.slots) (za3 s.objs) (zbu s.ice) o e /\ (draw = true -> yli (za3 s.slots) o e /\ ylf ops o e acc) /\
     ∃ s', za3 s'.slots = zn3 (za3 s.slots) o.dst e.v /\ za3 s'.objs = zb5 (za3 s.objs) e.os /\ zbu s'.ice = zkv (zbu s.ice) e.ice /\ zn8 (za3 s'.slots) s'.kn /\ Sat P Q (next s' (if draw = true then zz0 acc i e else acc)) := by
   intro v os ice hh hl h
   refine ⟨⟨true, v, os, ice, ⟨zcb ice (zzl draw s o), zcb (ys8 draw s o) (zzb os)⟩⟩, rfl, hh _, fun hd => ?_, s.eff o.dst v os ice (zrc s.kn o.op), zkw .., zse .., zrb .., ?_, ?_⟩
   · subst hd
     refine ⟨fun _ => ⟨fun id hid => ?_, fun hc d hd => ?_, fun id hid => ?_, fun id hid => ?_, fun hw id hid => ?_⟩, fun _ => ?_⟩
     · simp only [zau, List.mem_append, zzl]; rw [hval]; exact .inr (.inr hid)
     · simp [zau, zzl, hc, hd]
     · simp only [zau, List.mem_append]; exact .inl hid
     · simp only [zau, List.mem_append]; exact .inr hid
     · simp only [zau, List.mem_append, ys8, hw]; rw [hval]; exact .inl hid
     · simp only [zgu] at h
       split at h
       · rename_i e; exact e
       · cases h
   · show zn8 (za3 (s.put o.dst v)) (ytx s.kn o.dst (zrc s.kn o.op))
     rw [zkw]
     exact zwk hk hl
   · unfold zgu at h
     cases draw with
     | false => exact h
     | true =>
       simp only at h
       split at h
       · exact h
       · cases h
 have key1 : ∀ v os ice, Holds P (zkb T std (za3 s.slots) (za3 s.objs) (zbu s.ice) s.kn o) v os ice -> (∀ ent, zsh P T (za3 s.slots) (za3 s.objs) (zbu s.ice) o ⟨true, v, os, ice, ent⟩) /\ ∀ b, zrc s.kn o.op = some b -> v = .bool b := by
   intro v os ice hh
   have hh' := hh
   rw [ynb hk] at hh'
   exact ⟨fun _ => .inl hh', fun b hb => yjn hb hh⟩
 unfold zrx at h
 split at h
 · rename_i m raw hsel
   obtain ⟨f, first, caps, zs, c1, c2, hm, rfl⟩ : ∃ f first caps zs, ztx o.op = true /\ zck (evf (za3 s.slots) s.kn) (zbm o.op) = .fn f first caps :: zs /\ S.mt f = some m /\ raw = zcb first (zcb zs caps) := by
     split at hsel
     · rename_i c1
       split at hsel
       · rename_i f first caps zs c2
         split at hsel
         · rename_i m' hm; cases hsel; exact ⟨f, first, caps, zs, c1, c2, hm, rfl⟩
         · cases hsel
       · cases hsel
     · cases hsel
   obtain ⟨fo, ys, ts, e1⟩ : ∃ fo ys ts, o.op = .call { callee := .value fo, args := ys, argTypes := ts } := by
     unfold ztx at c1
     split at c1
     · rename_i fo ys ts e1; exact ⟨_, _, _, e1⟩
     · cases c1
   unfold yur at h
   split at h
   · rename_i T' hT'
     split at h
     · rename_i mt hmt
       split at h
       · rename_i hfr
         obtain ⟨hps, h⟩ := zi8 h
         cases h with
         | must hp h =>
           refine key _ _ [] (fun ent => .inr ⟨⟨fo, ys, ts, f, first, caps, zs, mt.ids, _, T', e1, by rw [<- hval]; exact c2, hS.mt f m hm _ _ T' hT' hp, yj7 hmt hfr hps, rfl, rfl⟩, rfl⟩) (fun b hb => ?_) h
           rw [e1] at hb; cases hb
       · cases h
     · cases h
   · cases h
 unfold yus at h
 split at h
 · rename_i v os ice e; obtain ⟨k1, k2⟩ := key1 v os ice (by rw [e]; exact .ok ..); exact key v os ice k1 k2 h
 · rename_i b v os ice e; cases h with | need h hk => obtain ⟨k1, k2⟩ := key1 v os ice (by rw [e]; exact .okIf _ _ _ _ h); exact key v os ice k1 k2 hk
 · rename_i b v os ice e; cases h with | must h hk => obtain ⟨k1, k2⟩ := key1 v os ice (by rw [e]; exact .okP _ _ _ _ h); exact key v os ice k1 k2 hk
 · rename_i b v os q v' os' e
   cases hb : b with
   | true =>
     cases h with | ite ht he => obtain ⟨k1, k2⟩ := key1 v os [] (by rw [e]; exact .alt1 _ _ _ _ _ _ hb); exact key v os [] k1 k2 (ht hb)
   | false =>
     cases h with
     | ite ht he =>
       have h := he hb
       cases h with | need h hk => obtain ⟨k1, k2⟩ := key1 v' os' [] (by rw [e]; exact .alt2 _ _ _ _ _ _ hb h); exact key v' os' [] k1 k2 hk
 · rename_i f xs ice e
   split at h
   · rename_i p r hs
     cases h with | must h hk => obtain ⟨k1, k2⟩ := key1 r [] ice (by rw [e]; exact .call _ _ _ _ (hS.fz f _ p r hs h)); exact key r [] ice k1 k2 hk
   · rename_i hs
     cases h with | call h hk => obtain ⟨k1, k2⟩ := key1 _ [] ice (by rw [e]; exact .call _ _ _ _ h); exact key _ [] ice k1 k2 hk
 · cases h
theorem zez (hS : zdr P S) {k : St -> zc6} : ∀ (r : List Oper) (i : Nat) (s : St) (acc : List (Nat × Ent)), zn8 (za3 s.slots) s.kn -> Sat P Q (zd6 T std S draw ops r i s acc k) ->
   ∃ es s', Walk P T draw ops r i (za3 s.slots) (za3 s.objs) (zbu s.ice) acc es (za3 s'.slots) (za3 s'.objs) (zbu s'.ice) /\ zn8 (za3 s'.slots) s'.kn /\ Sat P Q (k s')
 | [], i, s, acc, hk, h => ⟨[], s, ⟨rfl, rfl, rfl⟩, hk, h⟩
 | o :: r, i, s, acc, hk, h => by
   have yes : ∀ s1 : St, s1.slots = s.slots -> s1.objs = s.objs -> s1.ice = s.ice -> zn8 (za3 s1.slots) s1.kn ->
       (match zhu ops o with
         | none => true = true
         | some (some t, w) => (∃ b, za3 s.slots t = some (.bool b) /\ true = (b == w)) \/ (za3 s.slots t = some (.tup []) /\ true = false)
         | some (none, _) => False) -> Sat P Q (zrx T std S draw ops o i s1 acc (fun s acc => zd6 T std S draw ops r (i + 1) s acc k)) ->
       ∃ es s', Walk P T draw ops (o :: r) i (za3 s.slots) (za3 s.objs) (zbu s.ice) acc es (za3 s'.slots) (za3 s'.objs) (zbu s'.ice) /\ zn8 (za3 s'.slots) s'.kn /\ Sat P Q (k s') := by
     intro s1 e1 e2 e3 hk1 hg h
     obtain ⟨e, hw, hh, he, s2, h1, h2, h3, h4, h5⟩ := zzs hS hk1 h
     obtain ⟨es, s', hW, hk', h'⟩ := zez hS r (i + 1) s2 _ h4 h5
     rw [h1, h2, h3, e1, e2, e3] at hW
     rw [e1, e2, e3] at hh
     rw [e1] at he
     refine ⟨e :: es, s', ⟨⟨?_, fun h => (by rw [hw] at h; cases h), fun _ => hh⟩, he, hW⟩, hk', h'⟩
     rw [hw]; exact hg
   have no : ∀ s1 : St, s1.slots = s.slots -> s1.objs = s.objs -> s1.ice = s.ice -> zn8 (za3 s1.slots) s1.kn ->
       (match zhu ops o with
         | none => false = true
         | some (some t, w) => (∃ b, za3 s.slots t = some (.bool b) /\ false = (b == w)) \/ (za3 s.slots t = some (.tup []) /\ false = false)
         | some (none, _) => False) -> Sat P Q (zd6 T std S draw ops r (i + 1) (s1.eff o.dst (.tup []) [] [] none) acc k) ->
       ∃ es s', Walk P T draw ops (o :: r) i (za3 s.slots) (za3 s.objs) (zbu s.ice) acc es (za3 s'.slots) (za3 s'.objs) (zbu s'.ice) /\ zn8 (za3 s'.slots) s'.kn /\ Sat P Q (k s') := by
     intro s1 e1 e2 e3 hk1 hg h
     have h4 : zn8 (za3 (s1.eff o.dst (.tup []) [] [] none).slots) (s1.eff o.dst (.tup []) [] [] none).kn := by
       show zn8 (za3 (s1.put o.dst (.tup []))) (ytx s1.kn o.dst none)
       rw [zkw]
       exact zwk hk1 fun b hb => by cases hb
     obtain ⟨es, s', hW, hk', h'⟩ := zez hS r (i + 1) _ _ h4 h
     have q1 : za3 (s1.eff o.dst (.tup []) [] [] none).slots = zn3 (za3 s.slots) o.dst (.tup []) := by rw [<- e1]; exact zkw ..
     have q2 : za3 (s1.eff o.dst (.tup []) [] [] none).objs = zb5 (za3 s.objs) [] := by rw [<- e2]; exact zse ..
     have q3 : zbu (s1.eff o.dst (.tup []) [] [] none).ice = zkv (zbu s.ice) [] := by rw [<- e3]; exact zrb ..
     rw [q1, q2, q3] at hW
     refine ⟨nothing :: es, s', ⟨⟨hg, fun _ => ⟨rfl, rfl, rfl, rfl⟩, fun h => by cases h⟩, fun _ => ⟨fun h => by simp [nothing] at h, fun h => by simp [nothing] at h⟩, ?_⟩, hk', h'⟩
     simpa [zz0, nothing] using hW
   unfold zd6 at h
   split at h
   · rename_i e; exact yes s rfl rfl rfl hk (by rw [e]) h
   · cases h
   · rename_i t w e
     rw [e] at yes no
     split at h
     · rename_i b hb
       have hf := hk t b hb
       split at h
       · exact yes s rfl rfl rfl hk (.inl ⟨true, hf, rfl⟩) h
       · exact yes s rfl rfl rfl hk (.inl ⟨false, hf, rfl⟩) h
       · rename_i h1 h2
         refine no s rfl rfl rfl hk (.inl ⟨b, hf, ?_⟩) h
         cases b <;> cases w <;> simp_all
     · split at h
       · rename_i hb
         exact no s rfl rfl rfl hk (.inr ⟨hb, rfl⟩) h
       · rename_i b hb
         split at h
         · cases h with | ite h1 h2 =>
           cases b with
           | true => exact yes (s.know t true) rfl rfl rfl (zef hk hb) (.inl ⟨true, hb, rfl⟩) (h1 rfl)
           | false => exact no (s.know t false) rfl rfl rfl (zef hk hb) (.inl ⟨false, hb, rfl⟩) (h2 rfl)
         · cases h with | ite h1 h2 =>
           cases b with
           | true => exact no (s.know t true) rfl rfl rfl (zef hk hb) (.inl ⟨true, hb, rfl⟩) (h1 rfl)
           | false => exact yes (s.know t false) rfl rfl rfl (zef hk hb) (.inl ⟨false, hb, rfl⟩) (h2 rfl)
       · cases h
end
end Sy
end Go.Proofs.YtogpolfhcbgcbaaGreatDoor
namespace Go.Proofs.YtogpolfhcbgcbaaGreatDoor
namespace Sy
open Go Go.RowKit
set_option linter.unusedSimpArgs false
set_option linter.unusedVariables false
set_option linter.unusedSectionVars false
def zsr : List Operand -> List Nat
 | [] => []
 | .tmp t :: r => t :: zsr r
 | _ :: r => zsr r
def yxb (nt : Nat) (o : Oper) : Bool :=
 (match o.dst with | some d => zbk d nt | none => true) && (zbm o.op).all fun x => match x with | .const v => zie v | _ => true
def zr3 (i : Nat) (o : Oper) (ts : List Nat) : Nat -> List Oper -> Bool
 | _, [] => true
 | j, o' :: r => (match o'.dst with
   | none => true
   | some d => (zat j i || (match o.dst with | some d' => !zat d' d | none => true)) &&
     (!zbu ts d || (zbk j i && zax o.after.toList j) || (zbk i j && zax o'.after.toList i))) && zr3 i o ts (j + 1) r
def zmd (ops : List Oper) : Nat -> List Oper -> Bool
 | _, [] => true
 | i, o :: r => (o.after.toList.all fun e => !Region.binds .any e || zbk e.on i) && (match o.guard with | none => true | some (g, _) => zax o.after.toList g) &&
   zr3 i o (zsr (zbm o.op)) 0 ops && zmd ops (i + 1) r
structure ymx (nt : Nat) (o : Oper) : Prop where
 dst : ∀ d, o.dst = some d -> d < nt
 pl : ∀ x ∈ zbm o.op, ∀ v, x = .const v -> zie v = true
theorem ydf {nt : Nat} {o : Oper} (h : yxb nt o = true) : ymx nt o := by
 unfold yxb at h
 simp only [Bool.and_eq_true] at h
 refine ⟨fun d hd => ?_, fun x hx v hv => ?_⟩
 · have h1 := h.1
   rw [hd] at h1
   exact zd2 h1
 · have h2 := List.all_eq_true.1 h.2 x hx
   rw [hv] at h2
   exact h2
theorem ydt {l : List Operand} {t : Nat} (h : Operand.tmp t ∈ l) : t ∈ zsr l := by
 induction l with
 | nil => cases h
 | cons x l ih =>
   rcases List.mem_cons.1 h with rfl | h'
   · simp [zsr]
   · cases x <;> simp [zsr, ih h']
structure zmq (ops : List Oper) : Prop where
 back : ∀ (i : Nat) (o : Oper) (e : Edge), ops[i]? = some o -> e ∈ o.after -> Region.binds .any e = true -> e.on < i
 guard : ∀ (i : Nat) (o : Oper) g b, ops[i]? = some o -> o.guard = some (g, b) -> zax o.after.toList g = true
 once : ∀ (i j : Nat) (o o' : Oper) d, ops[i]? = some o -> ops[j]? = some o' -> o.dst = some d -> o'.dst = some d -> i = j
 reads : ∀ (i j : Nat) (o o' : Oper) d, ops[i]? = some o -> ops[j]? = some o' -> o'.dst = some d -> Operand.tmp d ∈ zbm o.op ->
   (j < i /\ zax o.after.toList j = true) \/ (i < j /\ zax o'.after.toList i = true)
theorem zlm {i : Nat} {o : Oper} {ts : List Nat} : ∀ (l : List Oper) (j : Nat), zr3 i o ts j l = true -> ∀ (k : Nat) (o' : Oper), l[k]? = some o' -> ∀ d, o'.dst = some d ->
   (zat (j + k) i || (match o.dst with | some d' => !zat d' d | none => true)) = true /\ (!zbu ts d || (zbk (j + k) i && zax o.after.toList (j + k)) || (zbk i (j + k) && zax o'.after.toList i)) = true
 | [], _, _, k, o', hk, _, _ => by simp at hk
 | x :: l, j, h, k, o', hk, d, hd => by
   unfold zr3 at h
   rw [Bool.and_eq_true] at h
   cases k with
   | zero =>
     simp only [List.getElem?_cons_zero, Option.some.injEq] at hk
     subst hk
     have h1 := h.1
     rw [hd] at h1
     simp only [Bool.and_eq_true] at h1
     exact h1
   | succ k =>
     have := zlm l (j + 1) h.2 k o' (by simpa using hk) d hd
     rw [show j + 1 + k = j + (k + 1) by omega] at this
     exact this
theorem zs1 {ops : List Oper} : ∀ (l : List Oper) (i : Nat), zmd ops i l = true -> ∀ (k : Nat) (o : Oper), l[k]? = some o ->
   ((o.after.toList.all fun e => !Region.binds .any e || zbk e.on (i + k)) && (match o.guard with | none => true | some (g, _) => zax o.after.toList g)) = true /\ zr3 (i + k) o (zsr (zbm o.op)) 0 ops = true
 | [], _, _, k, o, hk => by simp at hk
 | x :: l, i, h, k, o, hk => by
   unfold zmd at h
   rw [Bool.and_eq_true, Bool.and_eq_true] at h
   cases k with
   | zero =>
     simp only [List.getElem?_cons_zero, Option.some.injEq] at hk
     subst hk
     exact ⟨h.1.1, h.1.2⟩
   | succ k =>
     have := zs1 l (i + 1) h.2 k o (by simpa using hk)
     rw [show i + 1 + k = i + (k + 1) by omega] at this
     exact this
theorem zs0 {ops : List Oper} (h : zmd ops 0 ops = true) : zmq ops := by
 have H := zs1 ops 0 h
 simp only [Nat.zero_add] at H
 refine ⟨fun i o e ho he hb => ?_, fun i o g b ho hg => ?_, fun i j o o' d ho ho' hd hd' => ?_, fun i j o o' d ho ho' hd hr => ?_⟩
 · have h1 := (H i o ho).1
   rw [Bool.and_eq_true, List.all_eq_true] at h1
   have h2 := h1.1 e (Array.mem_toList_iff.2 he)
   rw [hb] at h2
   exact zd2 (by simpa using h2)
 · have h1 := (H i o ho).1
   rw [Bool.and_eq_true] at h1
   have h2 := h1.2
   rw [hg] at h2
   exact h2
 · have h1 := (zlm ops 0 (H i o ho).2 j o' ho' d hd').1
   rw [hd, Nat.zero_add] at h1
   simp only [za6, Bool.not_true, Bool.or_false] at h1
   exact (za4 h1).symm
 · have h1 := (zlm ops 0 (H i o ho).2 j o' ho' d hd).2
   rw [Nat.zero_add, zc9.2 (ydt hr)] at h1
   simp only [Bool.not_true, Bool.false_or, Bool.or_eq_true, Bool.and_eq_true] at h1
   rcases h1 with h1 | h1
   · exact .inl ⟨zd2 h1.1, h1.2⟩
   · exact .inr ⟨zd2 h1.1, h1.2⟩
section
variable {P : Program} {T : TT} {base : Nat} {M : Two} {W : World} {nt : Nat} {ops : List Oper}
theorem yay {f : Nat -> Option AV} {g : Nat -> Option Ob} {c : Nat -> Bool} {a : Act} {w : World} {o : Oper} {e : Ev} (hs : zhy base M W nt f g c a w) (hops : ∀ o ∈ ops, ymx nt o)
   (hg : match zhu ops o with
     | none => e.want = true
     | some (some t, w) => (∃ b, f t = some (.bool b) /\ e.want = (b == w)) \/ (f t = some (.tup []) /\ e.want = false)
     | some (none, _) => False) : Region.wanted o (yielded ops.toArray a.tmps) = e.want := by
 obtain ⟨D, μ, h⟩ := hs
 unfold Region.wanted
 unfold zhu at hg
 cases e1 : o.guard with
 | none => rw [e1] at hg; simp only at hg |-; exact hg.symm
 | some x =>
   obtain ⟨j, wt⟩ := x
   rw [e1] at hg
   simp only at hg |-
   cases e2 : ops[j]? with
   | none => rw [e2] at hg; exact hg.elim
   | some o' =>
     rw [e2] at hg
     simp only at hg
     cases e3 : o'.dst with
     | none => rw [e3] at hg; exact hg.elim
     | some t =>
       rw [e3] at hg
       simp only at hg
       rcases hg with ⟨b, hb, hw⟩ | ⟨hb, hw⟩
       rotate_left
       · have ht : t < a.tmps.size := by rw [h.tmps]; exact (hops o' (List.mem_of_getElem? e2)).dst t e3
         obtain ⟨us, hu, l1, _⟩ := (h.slots t _ hb).inv_tup
         have hus : us = #[] := Array.eq_empty_of_size_eq_zero (by simpa using l1.symm)
         have hx : a.tmps[t]? = some (.tuple #[]) := by
           rw [hus] at hu
           rw [<- hu]; simp [ht]
         unfold yielded
         simp only [List.getElem?_toArray, e2, Option.bind_some, e3, hx]
         rw [hw]; cases wt <;> rfl
       have ht : t < a.tmps.size := by rw [h.tmps]; exact (hops o' (List.mem_of_getElem? e2)).dst t e3
       have hr := (h.slots t _ hb).inv_bool
       have hx : a.tmps[t]? = some (.bool b) := by rw [<- hr]; simp [ht]
       unfold yielded
       simp only [List.getElem?_toArray, e2, Option.bind_some, e3, hx]
       rw [hw]
       cases b <;> cases wt <;> rfl
theorem zp3 {f : Nat -> Option AV} {g : Nat -> Option Ob} {c : Nat -> Bool} {a : Act} {w : World} {o : Oper} {e : Ev} {i : Nat} {Q : Exit -> Act -> World -> Prop} {K : Act -> World -> Prop} (hT : zbw P T)
   (hs : zhy base M W nt f g c a w) (hops : ∀ o ∈ ops, ymx nt o) (ho : ops[i]? = some o) (he : ywh P T ops f g c o e)
   (hK : ∀ a' w', zhy base M W nt (zn3 f o.dst e.v) (zb5 g e.os) (zkv c e.ice) a' w' -> K a' w') : wpOp P ops.toArray Q i K a w := by
 have hw := yay hs hops he.guard
 have hok := hops o (List.mem_of_getElem? ho)
 obtain ⟨D, μ, h⟩ := hs
 unfold wpOp
 rw [List.getElem?_toArray, ho]
 simp only
 rw [hw]
 cases e1 : e.want with
 | true =>
   rw [if_pos rfl]
   rcases he.yes e1 with h1 | ⟨h1, h2⟩
   · exact .inl (yvo h1 (says h hok.dst hT hok.pl (fun t b ht => by simp [za3] at ht)) K Q hK)
   · rw [h2] at hK
     exact .inl (adv_M h hok.dst hok.pl h1 K Q hK)
 | false =>
   rw [if_neg (by simp)]
   obtain ⟨h1, h2, h3, _⟩ := he.no e1
   rw [h1, h2, h3] at hK
   exact hK _ _ ⟨D, μ, h.put hok.dst (.tup [] #[] rfl (fun i x v hx => by simp at hx))⟩
theorem yb9 (hT : zbw P T) (hops : ∀ o ∈ ops, ymx nt o) {Q : Exit -> Act -> World -> Prop} {draw : Bool} : ∀ (r : List Oper) (i : Nat) (f : Nat -> Option AV) (g : Nat -> Option Ob) (c : Nat -> Bool) (acc : List (Nat × Ent)) (es : List Ev) (f' : Nat -> Option AV) (g' : Nat -> Option Ob) (c' : Nat -> Bool) (a : Act) (w : World),
   (∀ k, r[k]? = ops[i + k]?) -> Walk P T draw ops r i f g c acc es f' g' c' -> zhy base M W nt f g c a w -> (∀ a' w', zhy base M W nt f' g' c' a' w' -> Q .normal a' w') ->
   wpOps P ops.toArray Q (List.range' i r.length) a w
 | [], i, f, g, c, acc, es, f', g', c', a, w, hr, hW, hs, hQ => by
   cases es with
   | nil => obtain ⟨rfl, rfl, rfl⟩ := hW; exact hQ a w hs
   | cons _ _ => exact hW.elim
 | o :: r, i, f, g, c, acc, [], f', g', c', a, w, hr, hW, hs, hQ => hW.elim
 | o :: r, i, f, g, c, acc, e :: es, f', g', c', a, w, hr, hW, hs, hQ => by
   have ho : ops[i]? = some o := by have := hr 0; simpa using this.symm
   rw [List.length_cons, List.range'_succ, wpOps_cons]
   exact zp3 hT hs hops ho hW.1 fun a' w' hs' => yb9 hT hops r (i + 1) _ _ _ _ es f' g' c' a' w' (fun k => by have := hr (k + 1); rw [List.getElem?_cons_succ] at this; rw [this]; congr 1; omega) hW.2.2 hs' hQ
def yam (ops : List Oper) (E : Nat -> Ev) (t : Nat) (j : Nat) : Option AV := match ops[j]? with
 | some o => if o.dst = some t then some (E j).v else none
 | none => none
theorem zwy (f : Nat -> Option AV) (o : Oper) (v : AV) (t : Nat) : zn3 f o.dst v t = match (if o.dst = some t then some v else none) with | some x => some x | none => f t := by
 unfold zn3
 cases e : o.dst with
 | none => simp
 | some d =>
   by_cases h : t = d
   · subst h; simp
   · simp [h]; rw [if_neg (fun h' => h h'.symm)]
section
variable (ops : List Oper) (E : Nat -> Ev) (f0 : Nat -> Option AV) (g0 : Nat -> Option Ob) (c0 : Nat -> Bool)
def fL (L : Nat -> Bool) (n : Nat) : Nat -> Option AV := fun t => zi1 L (yam ops E t) (f0 t) n
def gL (L : Nat -> Bool) (n : Nat) : Nat -> Option Ob := fun id => zi1 L (fun j => za3 (E j).os id) (g0 id) n
def cL (L : Nat -> Bool) (n : Nat) : Nat -> Bool := fun id => zn6 L (fun j => zbu (E j).ice id) (c0 id) n
end
abbrev zg5 : Nat -> Bool := fun _ => true
variable {E : Nat -> Ev} {f0 : Nat -> Option AV} {g0 : Nat -> Option Ob} {c0 : Nat -> Bool}
theorem yq3 {i : Nat} {o : Oper} (ho : ops[i]? = some o) : fL ops E f0 zg5 (i + 1) = zn3 (fL ops E f0 zg5 i) o.dst (E i).v := by
 funext t
 rw [zwy]
 show zi1 zg5 (yam ops E t) (f0 t) (i + 1) = _
 rw [zlz, if_pos rfl]
 have : yam ops E t i = if o.dst = some t then some (E i).v else none := by unfold yam; rw [ho]
 rw [this]
 cases (if o.dst = some t then some (E i).v else none) <;> rfl
theorem ypq {i : Nat} : gL E g0 zg5 (i + 1) = zb5 (gL E g0 zg5 i) (E i).os := by
 funext id
 show zi1 zg5 _ (g0 id) (i + 1) = _
 rw [zlz, if_pos rfl]
 unfold zb5
 cases za3 (E i).os id <;> rfl
theorem yr2 {i : Nat} : cL E c0 zg5 (i + 1) = zkv (cL E c0 zg5 i) (E i).ice := by
 funext id
 show zn6 zg5 _ (c0 id) (i + 1) = _
 rw [zs9]
 rfl
def yj0 (E : Nat -> Ev) (acc : List (Nat × Ent)) (i : Nat) : Prop := ∀ k, k < i -> (E k).ent = ⟨[], []⟩ \/ (k, (E k).ent) ∈ acc
theorem zyz {acc : List (Nat × Ent)} {i : Nat} (h : yj0 E acc i) (hno : (E i).want = false -> (E i).ent = ⟨[], []⟩) : yj0 E (zz0 acc i (E i)) (i + 1) := by
 intro k hk
 unfold zz0
 by_cases hi : k = i
 · subst hi
   cases hw : (E k).want with
   | false => exact .inl (hno hw)
   | true =>
     rw [if_pos rfl]
     unfold zw1
     generalize (E k).ent = x
     obtain ⟨a, b⟩ := x
     cases a with
     | nil => cases b with
       | nil => exact .inl rfl
       | cons _ _ => exact .inr (by simp)
     | cons _ _ => exact .inr (by simp)
 · rcases h k (by omega) with h | h
   · exact .inl h
   · refine .inr ?_
     split
     · unfold zw1
       split
       · split
         · exact h
         · exact List.mem_cons_of_mem _ h
       · exact List.mem_cons_of_mem _ h
     · exact h
structure At (P : Program) (T : TT) (ops : List Oper) (E : Nat -> Ev) (f0 : Nat -> Option AV) (g0 : Nat -> Option Ob) (c0 : Nat -> Bool) (j : Nat) (o : Oper) : Prop where
 ev : ywh P T ops (fL ops E f0 zg5 j) (gL E g0 zg5 j) (cL E c0 zg5 j) o (E j)
 ent : yli (fL ops E f0 zg5 j) o (E j)
 ord : ∃ acc, yj0 E acc j /\ ylf ops o (E j) acc
theorem yaz : ∀ (r : List Oper) (i : Nat) (f : Nat -> Option AV) (g : Nat -> Option Ob) (c : Nat -> Bool) (acc : List (Nat × Ent)) (es : List Ev) (f' : Nat -> Option AV) (g' : Nat -> Option Ob) (c' : Nat -> Bool),
   (∀ k, r[k]? = ops[i + k]?) -> (∀ k e, es[k]? = some e -> E (i + k) = e) -> f = fL ops E f0 zg5 i -> g = gL E g0 zg5 i -> c = cL E c0 zg5 i -> yj0 E acc i -> Walk P T true ops r i f g c acc es f' g' c' ->
   (∀ j o, i <= j -> ops[j]? = some o -> At P T ops E f0 g0 c0 j o) /\ f' = fL ops E f0 zg5 (i + r.length) /\ g' = gL E g0 zg5 (i + r.length) /\ c' = cL E c0 zg5 (i + r.length)
 | [], i, f, g, c, acc, es, f', g', c', hr, hE, ef, eg, ec, hn, hW => by
   cases es with
   | nil =>
     obtain ⟨rfl, rfl, rfl⟩ := hW
     refine ⟨fun j o hj ho => ?_, ef, eg, ec⟩
     have := hr (j - i)
     rw [show i + (j - i) = j by omega, ho] at this
     simp at this
   | cons _ _ => exact hW.elim
 | o :: r, i, f, g, c, acc, [], f', g', c', hr, hE, ef, eg, ec, hn, hW => hW.elim
 | o :: r, i, f, g, c, acc, e :: es, f', g', c', hr, hE, ef, eg, ec, hn, hW => by
   have ho : ops[i]? = some o := by have := hr 0; simpa using this.symm
   obtain ⟨h1, h2, h3⟩ := hW
   obtain ⟨h2, h2'⟩ := h2 rfl
   have hEi : E i = e := hE 0 e rfl
   rw [if_pos rfl] at h3
   have ih := yaz r (i + 1) _ _ _ _ es f' g' c' (fun k => by have := hr (k + 1); rw [List.getElem?_cons_succ] at this; rw [this]; congr 1; omega) (fun k x hx => by rw [show i + 1 + k = i + (k + 1) by omega]; exact hE (k + 1) x (by simpa using hx))
     (by rw [yq3 ho, hEi, ef]) (by rw [ypq, hEi, eg]) (by rw [yr2, hEi, ec]) (by rw [<- hEi]; exact zyz hn (by rw [hEi]; exact fun hw => (h1.no hw).2.2.2)) h3
   obtain ⟨i1, i2, i3, i4⟩ := ih
   rw [show i + 1 + r.length = i + (o :: r).length by simp; omega] at i2 i3 i4
   refine ⟨fun j o' hj ho' => ?_, i2, i3, i4⟩
   by_cases e1 : j = i
   · subst e1
     rw [ho] at ho'
     cases ho'
     subst hEi; subst ef; subst eg; subst ec
     exact ⟨h1, h2, acc, hn, h2'⟩
   · exact i1 j o' (by omega) ho'
theorem zr7 {xs ys : List Nat} {id : Nat} (h1 : id ∈ xs) (h2 : id ∈ ys) : meets xs ys = true := by
 induction xs with
 | nil => cases h1
 | cons x xs ih =>
   unfold meets
   rcases List.mem_cons.1 h1 with rfl | h1
   · rw [zc9.2 h2]
   · split
     · rfl
     · exact ih h1
theorem yqr {a b : Ent} {id : Nat} (h1 : id ∈ a.wr) (h2 : id ∈ b.ids \/ id ∈ b.wr) : zun a b = true := by
 unfold zun
 rw [zr7 h1 (by rw [zau, List.mem_append]; exact h2)]
theorem yqq {a b : Ent} {id : Nat} (h1 : id ∈ b.wr) (h2 : id ∈ a.ids) : zun a b = true := by
 unfold zun
 split
 · rfl
 · exact zr7 h1 h2
theorem zth {es : List Edge} {x : Ent} {acc : List (Nat × Ent)} (h : zjl ops es x acc = true) {k : Nat} {y : Ent} (hm : (k, y) ∈ acc) (hc : zun x y = true) : zv0 ops 4 es k = true := by
 induction acc with
 | nil => cases hm
 | cons z acc ih =>
   obtain ⟨j, z⟩ := z
   unfold zjl at h
   rcases List.mem_cons.1 hm with e | hm
   · cases e
     rw [hc] at h
     simp only at h
     split at h
     · assumption
     · cases h
   · refine ih ?_ hm
     split at h
     · split at h
       · exact h
       · cases h
     · exact h
def zoh (ops : List Oper) (L : Nat -> Bool) : Prop := ∀ (k : Nat) (o : Oper) (e : Edge), ops[k]? = some o -> L k = true -> e ∈ o.after -> Region.binds .any e = true -> L e.on = true
theorem zgs {L : Nat -> Bool} {es : List Edge} {j : Nat} (h : ∀ e ∈ es, Region.binds .any e = true -> L e.on = true) (hd : zax es j = true) : L j = true := by
 induction es with
 | nil => simp [zax] at hd
 | cons e es ih =>
   have ih := ih fun x hx => h x (by simp [hx])
   unfold zax at hd
   split at hd
   · rename_i hb
     split at hd
     · rename_i he
       rw [<- za4 he]; exact h e (by simp) hb
     · exact ih hd
   · exact ih hd
theorem zqa {L : Nat -> Bool} (hc : zoh ops L) {j : Nat} : ∀ (n : Nat) (es : List Edge), (∀ e ∈ es, Region.binds .any e = true -> L e.on = true) -> zv0 ops n es j = true -> L j = true
 | 0, es, h, hd => zgs h hd
 | n + 1, es, h, hd => by
   unfold zv0 at hd
   split at hd
   · rename_i h'; exact zgs h h'
   · rw [List.any_eq_true] at hd
     obtain ⟨e, he, hd⟩ := hd
     split at hd
     · rename_i hb
       split at hd
       · cases hd
       · split at hd
         · rename_i o ho
           exact zqa hc n o.after.toList (fun x hx hxb => hc e.on o x ho (h e he hb) (Array.mem_toList_iff.1 hx) hxb) hd
         · cases hd
     · cases hd
structure ygw (ops : List Oper) (L : Nat -> Bool) (i : Nat) (o : Oper) : Prop where
 at_ : ops[i]? = some o
 not : L i = false
 go : ∀ e ∈ o.after.toList, Region.binds .any e = true -> L e.on = true
variable {L : Nat -> Bool} {i : Nat} {o : Oper}
theorem yv1 (h : At P T ops E f0 g0 c0 i o) {id : Nat} (hid : id ∈ (E i).ent.ids \/ id ∈ (E i).ent.wr) : (E i).want = true := by
 cases hw : (E i).want with
 | true => rfl
 | false =>
   have := (h.ev.no hw).2.2.2
   rw [this] at hid
   simp at hid
theorem zvs (hA : ∀ j o, ops[j]? = some o -> At P T ops E f0 g0 c0 j o) {j k : Nat} {o : Oper} (ho : ops[k]? = some o) (hjk : j < k) {id : Nat} (h : (id ∈ (E k).ent.wr /\ (id ∈ (E j).ent.ids \/ id ∈ (E j).ent.wr)) \/ (id ∈ (E j).ent.wr /\ id ∈ (E k).ent.ids)) : zv0 ops 4 o.after.toList j = true := by
 have A := hA k o ho
 have hw : (E k).want = true := yv1 A (id := id) (by rcases h with h | h; exact .inr h.1; exact .inl h.2)
 obtain ⟨acc, hn, ho'⟩ := A.ord
 have hor := ho' hw
 have hcl : zun (E k).ent (E j).ent = true := by
   rcases h with h | h
   · exact yqr h.1 h.2
   · exact yqq h.1 h.2
 rcases hn j hjk with h0 | h0
 · rw [h0] at h; simp at h
 · exact zth hor h0 hcl
theorem yvv (hA : ∀ j o, ops[j]? = some o -> At P T ops E f0 g0 c0 j o) (hC : zoh ops L) (hR : ygw ops L i o) {j : Nat} (hj : j < ops.length) {id : Nat}
   (h : (id ∈ (E j).ent.wr /\ (id ∈ (E i).ent.ids \/ id ∈ (E i).ent.wr)) \/ (id ∈ (E i).ent.wr /\ id ∈ (E j).ent.ids)) : L j = decide (j < i) := by
 obtain ⟨oj, hoj⟩ : ∃ oj, ops[j]? = some oj := ⟨_, List.getElem?_eq_getElem hj⟩
 rcases Nat.lt_trichotomy j i with hlt | heq | hgt
 · have := zvs hA hR.at_ hlt (id := id) (by
     rcases h with ⟨h1, h2 | h2⟩ | ⟨h1, h2⟩
     · exact .inr ⟨h1, h2⟩
     · exact .inl ⟨h2, .inr h1⟩
     · exact .inl ⟨h1, .inl h2⟩)
   rw [zqa hC 4 _ hR.go this]; simp [hlt]
 · subst heq
   rw [hR.not]; simp
 · have := zvs hA hoj hgt (id := id) (by
     rcases h with ⟨h1, h2 | h2⟩ | ⟨h1, h2⟩
     · exact .inl ⟨h1, .inl h2⟩
     · exact .inl ⟨h1, .inr h2⟩
     · exact .inr ⟨h1, h2⟩)
   have hn : L j = false := by
     cases hL : L j with
     | false => rfl
     | true =>
       have h2 := zqa hC 4 _ (fun e he hb => hC j oj e hoj hL (Array.mem_toList_iff.1 he) hb) this
       rw [hR.not] at h2; cases h2
   rw [hn]; simp; omega
theorem ymg (hD : zmq ops) (hC : zoh ops L) (hR : ygw ops L i o) {t : Nat} (ht : Operand.tmp t ∈ zbm o.op \/ ∃ g b og, o.guard = some (g, b) /\ ops[g]? = some og /\ og.dst = some t) : fL ops E f0 L ops.length t = fL ops E f0 zg5 i t := by
 have hi : i < ops.length := (List.getElem?_eq_some_iff.1 hR.at_).1
 show zi1 L (yam ops E t) (f0 t) ops.length = zi1 zg5 (yam ops E t) (f0 t) i
 rw [<- zm0 i ops.length (by omega)]
 refine zcu _ fun j hj hh => ?_
 obtain ⟨oj, hoj⟩ : ∃ oj, ops[j]? = some oj := ⟨_, List.getElem?_eq_getElem hj⟩
 have hdj : oj.dst = some t := by
   unfold yam at hh
   rw [hoj] at hh
   simp only at hh
   split at hh
   · assumption
   · exact absurd rfl hh
 rcases ht with ht | ⟨g, b, og, h1, h2, h3⟩
 · rcases hD.reads i j o oj t hR.at_ hoj hdj ht with h | h
   · rw [zgs hR.go h.2]; simp [h.1]
   · have hn : L j = false := by
       cases hL : L j with
       | false => rfl
       | true =>
         have h2 := zgs (fun e he hb => hC j oj e hoj hL (Array.mem_toList_iff.1 he) hb) h.2
         rw [hR.not] at h2; cases h2
     rw [hn]; simp; omega
 · have := hD.once j g oj og t hoj h2 hdj h3
   subst this
   have hd := hD.guard i o j b hR.at_ h1
   rw [zgs hR.go hd]
   have : j < i := by
     have key : ∀ es : List Edge, (∀ e ∈ es, Region.binds .any e = true -> e.on < i) -> zax es j = true -> j < i := by
       intro es
       induction es with
       | nil => intro _ h; simp [zax] at h
       | cons e es ih =>
         intro h hd
         have ih := ih fun x hx => h x (by simp [hx])
         unfold zax at hd
         split at hd
         · rename_i hb
           split at hd
           · rename_i he; rw [<- za4 he]; exact h e (by simp) hb
           · exact ih hd
         · exact ih hd
     exact key _ (fun e he hb => hD.back i o e hR.at_ (Array.mem_toList_iff.1 he) hb) hd
   simp [this]
theorem yjr {α : Type} {l : List (Nat × α)} {id : Nat} (h : za3 l id ≠ none) : id ∈ zzb l := by
 induction l with
 | nil => simp [za3] at h
 | cons x l ih =>
   obtain ⟨k, v⟩ := x
   unfold za3 at h
   unfold zzb
   cases e : zat k id with
   | true => simp [za4 e]
   | false => rw [e] at h; simp [ih h]
theorem yis (h : At P T ops E f0 g0 c0 i o) {id : Nat} (hh : za3 (E i).os id ≠ none) : id ∈ (E i).ent.wr := by
 cases hw : (E i).want with
 | true => exact (h.ent hw).2.2.2.1 id (yjr hh)
 | false => rw [(h.ev.no hw).2.1] at hh; simp [za3] at hh
theorem ypg (h : At P T ops E f0 g0 c0 i o) {id : Nat} (hh : zbu (E i).ice id = true) : id ∈ (E i).ent.ids := by
 cases hw : (E i).want with
 | true => exact (h.ent hw).2.2.1 id (zc9.1 hh)
 | false => rw [(h.ev.no hw).2.2.1] at hh; simp [zbu] at hh
theorem yuw (hD : zmq ops) (hA : ∀ j o, ops[j]? = some o -> At P T ops E f0 g0 c0 j o) (hC : zoh ops L) (hR : ygw ops L i o) :
   ywh P T ops (fL ops E f0 L ops.length) (gL E g0 L ops.length) (cL E c0 L ops.length) o (E i) := by
 have A := hA i o hR.at_
 have hi : i < ops.length := (List.getElem?_eq_some_iff.1 hR.at_).1
 refine ⟨?_, A.ev.no, fun hw => ?_⟩
 · have hg := A.ev.guard
   unfold zhu at hg |-
   cases e1 : o.guard with
   | none => rw [e1] at hg; exact hg
   | some x =>
     obtain ⟨j, b⟩ := x
     rw [e1] at hg
     simp only at hg |-
     cases e2 : ops[j]? with
     | none => rw [e2] at hg; exact hg
     | some o' =>
       rw [e2] at hg
       simp only at hg |-
       cases e3 : o'.dst with
       | none => rw [e3] at hg; exact hg
       | some t =>
         rw [e3] at hg
         simp only at hg |-
         rw [ymg hD hC hR (.inr ⟨j, b, o', e1, e2, e3⟩)]
         exact hg
 · have h1 := A.ev.yes hw
   obtain ⟨n1, n2, n3, n4, n5⟩ := A.ent hw
   have hv : zck (evf (fL ops E f0 L ops.length) []) (zbm o.op) = zck (evf (fL ops E f0 zg5 i) []) (zbm o.op) := by
     refine zh3 fun x hx => ?_
     cases x with
     | tmp t => simp only [evf, za3]; rw [ymg hD hC hR (.inl hx)]
     | _ => rfl
   have hg : ∀ id, id ∈ (E i).ent.ids -> gL E g0 L ops.length id = gL E g0 zg5 i id := by
     intro id hid
     show zi1 L _ (g0 id) ops.length = zi1 zg5 _ (g0 id) i
     rw [<- zm0 i ops.length (by omega)]
     refine zcu _ fun j hj hh => ?_
     obtain ⟨oj, hoj⟩ : ∃ oj, ops[j]? = some oj := ⟨_, List.getElem?_eq_getElem hj⟩
     exact yvv hA hC hR hj (id := id) (.inl ⟨yis (hA j oj hoj) hh, .inl hid⟩)
   have hgw : ∀ id, id ∈ (E i).ent.wr -> gL E g0 L ops.length id = gL E g0 zg5 i id := by
     intro id hid
     show zi1 L _ (g0 id) ops.length = zi1 zg5 _ (g0 id) i
     rw [<- zm0 i ops.length (by omega)]
     refine zcu _ fun j hj hh => ?_
     obtain ⟨oj, hoj⟩ : ∃ oj, ops[j]? = some oj := ⟨_, List.getElem?_eq_getElem hj⟩
     exact yvv hA hC hR hj (id := id) (.inl ⟨yis (hA j oj hoj) hh, .inr hid⟩)
   have hc : ∀ id, id ∈ (E i).ent.wr -> cL E c0 L ops.length id = cL E c0 zg5 i id := by
     intro id hid
     show zn6 L _ (c0 id) ops.length = zn6 zg5 _ (c0 id) i
     rw [<- ygq i ops.length (by omega)]
     refine zfe _ fun j hj hh => ?_
     obtain ⟨oj, hoj⟩ : ∃ oj, ops[j]? = some oj := ⟨_, List.getElem?_eq_getElem hj⟩
     exact yvv hA hC hR hj (id := id) (.inr ⟨hid, ypg (hA j oj hoj) hh⟩)
   rcases h1 with h1 | ⟨h1, h2⟩
   · left
     rw [zl2 (f' := fL ops E f0 zg5 i) (g' := gL E g0 zg5 i) (c' := cL E c0 zg5 i) (kn' := []) hv (fun id hid => hg id (n1 id hid)) (fun hcr d hd => hg d (n2 hcr d hd)) (fun hwr id hid => hc id (n5 hwr id hid))]
     exact h1
   · right
     refine ⟨?_, h2⟩
     obtain ⟨fo, xs, ts, k, first, caps, zs, F, fr, T', e, hvals, hM, hm, q1, q2⟩ := h1
     refine ⟨fo, xs, ts, k, first, caps, zs, F, fr, T', e, by rw [hv]; exact hvals, hM, hm.congr (fun id hid => hgw id (n4 id (by rw [q2]; exact hid))) (fun id hid => hc id (n4 id (by rw [q2]; exact hid))), q1, q2⟩
theorem yri (hD : zmq ops) (hA : ∀ j o, ops[j]? = some o -> At P T ops E f0 g0 c0 j o) (hC : zoh ops L) (hR : ygw ops L i o) {L' : Nat -> Bool} (h1 : L' i = true) (hne : ∀ j, j ≠ i -> L' j = L j) :
   zn3 (fL ops E f0 L ops.length) o.dst (E i).v = fL ops E f0 L' ops.length /\ zb5 (gL E g0 L ops.length) (E i).os = gL E g0 L' ops.length /\ zkv (cL E c0 L ops.length) (E i).ice = cL E c0 L' ops.length := by
 have A := hA i o hR.at_
 have hi : i < ops.length := (List.getElem?_eq_some_iff.1 hR.at_).1
 refine ⟨?_, ?_, ?_⟩
 · funext t
   rw [zwy]
   have hf : yam ops E t i = if o.dst = some t then some (E i).v else none := by unfold yam; rw [hR.at_]
   have := zpg (hit := yam ops E t) (s := f0 t) h1 hR.not hne ops.length hi (fun hh j hij hj hLj => by
     rw [hf] at hh
     have hd : o.dst = some t := by
       split at hh
       · assumption
       · exact absurd rfl hh
     obtain ⟨oj, hoj⟩ : ∃ oj, ops[j]? = some oj := ⟨_, List.getElem?_eq_getElem hj⟩
     unfold yam
     rw [hoj]
     simp only
     rw [if_neg]
     intro hdj
     have := hD.once i j o oj t hR.at_ hoj hd hdj
     omega)
   rw [hf] at this
   show _ = zi1 L' (yam ops E t) (f0 t) ops.length
   rw [this]
   cases (if o.dst = some t then some (E i).v else none) <;> rfl
 · funext id
   have := zpg (hit := fun j => za3 (E j).os id) (s := g0 id) h1 hR.not hne ops.length hi (fun hh j hij hj hLj => by
     refine Decidable.byContradiction fun hjn => ?_
     obtain ⟨oj, hoj⟩ : ∃ oj, ops[j]? = some oj := ⟨_, List.getElem?_eq_getElem hj⟩
     have := yvv hA hC hR hj (id := id) (.inl ⟨yis (hA j oj hoj) (by intro e; rw [e] at hjn; exact hjn rfl), .inr (yis A hh)⟩)
     rw [hLj] at this
     simp at this
     omega)
   show _ = zi1 L' (fun j => za3 (E j).os id) (g0 id) ops.length
   rw [this]
   unfold zb5
   cases za3 (E i).os id <;> rfl
 · funext id
   have := zxi (p := fun j => zbu (E j).ice id) (s := c0 id) h1 hR.not hne ops.length hi
   show _ = zn6 L' _ (c0 id) ops.length
   rw [this]
   rfl
def left (L : Array Bool) : Nat := L.toList.count false
theorem yjm {L : Array Bool} {i : Nat} (h : L.getD i true = false) (hi : i < L.size) : left (L.setIfInBounds i true) + 1 = left L := by
 have hget : L[i] = false := by simpa [hi] using h
 unfold left
 have hc : 0 < List.count false L.toList := List.count_pos_iff.2 (by rw [<- hget]; simp)
 have h2 := List.count_set (a := true) (b := false) (l := L.toList) (i := i) (by simpa using hi)
 rw [Array.toList_setIfInBounds, h2]
 have e1 : (L.toList[i]'(by simpa using hi)) = false := by simpa using hget
 rw [e1]
 have e2 : ((false == false) = true) := rfl
 have e3 : ¬ ((true == false) = true) := by decide
 rw [if_pos e2, if_neg e3]
 omega
theorem zu5 {L : Array Bool} {i : Nat} (h : i < L.size) (d d' : Bool) : L.getD i d = L.getD i d' := by simp [h]
theorem zsa (hD : zmq ops) {L : Array Bool} (hs : L.size = ops.length) (hn : Region.ready .any ops.toArray L = []) : ∀ j, j < ops.length -> L.getD j true = true := by
 intro j
 induction j using Nat.strongRecOn with
 | _ j ih =>
   intro hj
   refine Decidable.byContradiction fun h => ?_
   have hm : j ∈ Region.ready .any ops.toArray L := by
     rw [mem_ready]
     refine ⟨by simpa using h, ops[j], by simp [hj], fun e he hb => ?_⟩
     have hlt := hD.back j ops[j] e (List.getElem?_eq_getElem hj) he hb
     rw [zu5 (by omega) false true]
     exact ih e.on hlt (by omega)
   rw [hn] at hm; cases hm
structure InvA (base : Nat) (M : Two) (W : World) (nt : Nat) (ops : List Oper) (E : Nat -> Ev) (f0 : Nat -> Option AV) (g0 : Nat -> Option Ob) (c0 : Nat -> Bool) (L : Array Bool) (a : Act) (w : World) : Prop where
 size : L.size = ops.length
 closed : zoh ops (fun i => L.getD i false)
 sim : zhy base M W nt (fL ops E f0 (fun i => L.getD i false) ops.length) (gL E g0 (fun i => L.getD i false) ops.length) (cL E c0 (fun i => L.getD i false) ops.length) a w
theorem zrp {L : Array Bool} (hs : L.size = ops.length) (h : ∀ j, j < ops.length -> L.getD j true = true) :
   fL ops E f0 (fun i => L.getD i false) ops.length = fL ops E f0 zg5 ops.length /\ gL E g0 (fun i => L.getD i false) ops.length = gL E g0 zg5 ops.length /\ cL E c0 (fun i => L.getD i false) ops.length = cL E c0 zg5 ops.length := by
 have hj : ∀ j, j < ops.length -> L.getD j false = zg5 j := fun j hj => by rw [zu5 (by omega) false true]; exact h j hj
 exact ⟨funext fun t => zcu _ fun j h _ => hj j h, funext fun t => zcu _ fun j h _ => hj j h, funext fun t => zfe _ fun j h _ => hj j h⟩
theorem ymv (hT : zbw P T) (hops : ∀ o ∈ ops, ymx nt o) (hD : zmq ops) (hA : ∀ j o, ops[j]? = some o -> At P T ops E f0 g0 c0 j o) {Q : Exit -> Act -> World -> Prop}
   (hQ : ∀ a w, zhy base M W nt (fL ops E f0 zg5 ops.length) (gL E g0 zg5 ops.length) (cL E c0 zg5 ops.length) a w -> Q .normal a w) :
   ∀ (fuel : Nat) (L : Array Bool) (a : Act) (w : World), left L <= fuel -> InvA base M W nt ops E f0 g0 c0 L a w -> wpAny P .any ops.toArray Q fuel L a w
 | 0, L, a, w, hf, I => by
   have hall : ∀ j, j < ops.length -> L.getD j true = true := fun j hj => by
     refine Decidable.byContradiction fun h => ?_
     have hm : false ∈ L.toList := by
       have hjL : j < L.size := by rw [I.size]; exact hj
       have : L[j] = false := by simpa [hjL] using h
       rw [<- this]; simp
     have := List.count_pos_iff.2 hm
     unfold left at hf; omega
   obtain ⟨e1, e2, e3⟩ := zrp (E := E) (f0 := f0) (g0 := g0) (c0 := c0) I.size hall
   refine ⟨?_, hQ a w (by have := I.sim; rwa [e1, e2, e3] at this)⟩
   refine List.eq_nil_iff_forall_not_mem.2 fun j hj => ?_
   rw [mem_ready] at hj
   obtain ⟨h1, o, ho, _⟩ := hj
   have hj : j < ops.length := by
     rw [List.getElem?_toArray] at ho
     exact (List.getElem?_eq_some_iff.1 ho).1
   rw [hall j hj] at h1; cases h1
 | fuel + 1, L, a, w, hf, I => by
   refine ⟨fun hn => ?_, fun i hi => ?_⟩
   · obtain ⟨e1, e2, e3⟩ := zrp (E := E) (f0 := f0) (g0 := g0) (c0 := c0) I.size (zsa hD I.size hn)
     exact hQ a w (by have := I.sim; rwa [e1, e2, e3] at this)
   · rw [mem_ready] at hi
     obtain ⟨hun, o, ho, hed⟩ := hi
     rw [List.getElem?_toArray] at ho
     have hil : i < ops.length := (List.getElem?_eq_some_iff.1 ho).1
     have hiL : i < L.size := by rw [I.size]; exact hil
     have hR : ygw ops (fun i => L.getD i false) i o := ⟨ho, by rw [zu5 hiL false true]; exact hun, fun e he hb => hed e (Array.mem_toList_iff.1 he) hb⟩
     have hleft := yjm hun hiL
     have h1 : (fun j => (L.setIfInBounds i true).getD j false) i = true := by simp [hiL]
     have hne : ∀ j, j ≠ i -> (fun j => (L.setIfInBounds i true).getD j false) j = (fun j => L.getD j false) j := fun j hj => by
       simp only [Array.getD_eq_getD_getElem?, Array.getElem?_setIfInBounds_ne (fun e => hj e.symm)]
     obtain ⟨q1, q2, q3⟩ := yri hD hA I.closed hR h1 hne
     refine zp3 hT I.sim hops ho (yuw hD hA I.closed hR) fun a' w' hs => ymv hT hops hD hA hQ fuel _ a' w' (by omega) ⟨by simpa using I.size, ?_, ?_⟩
     · intro k ok e hk hL he hb
       by_cases hki : k = i
       · subst hki
         rw [ho] at hk; cases hk
         have := hR.go e (Array.mem_toList_iff.2 he) hb
         by_cases hei : e.on = k
         · rw [hei]; exact h1
         · have := hne e.on hei; simp only at this |-; rw [this]; exact hR.go e (Array.mem_toList_iff.2 he) hb
       · have h2 := hne k hki
         simp only at h2 hL
         rw [h2] at hL
         have := I.closed k ok e hk hL he hb
         by_cases hei : e.on = i
         · rw [hei]; exact h1
         · have h3 := hne e.on hei; simp only at h3 |-; rw [h3]; exact this
     · rw [q1, q2, q3] at hs
       exact hs
theorem zel {L : Array Bool} {i : Nat} (h : i ∈ Region.ready .any ops.toArray L) : ∃ o, ops[i]? = some o /\ L.getD i true = false /\ ∀ j, zax o.after.toList j = true -> L.getD j false = true := by
 rw [mem_ready] at h
 obtain ⟨h1, o, ho, h2⟩ := h
 rw [List.getElem?_toArray] at ho
 refine ⟨o, ho, h1, fun j hj => ?_⟩
 have : ∀ es : List Edge, zax es j = true -> ∃ e, e ∈ es /\ Region.binds .any e = true /\ e.on = j := by
   intro es
   induction es with
   | nil => intro h; cases h
   | cons x es ih =>
     intro h
     unfold zax at h
     split at h
     · rename_i hb
       split at h
       · rename_i he; exact ⟨x, by simp, hb, za4 he⟩
       · obtain ⟨e, e1, e2, e3⟩ := ih h; exact ⟨e, by simp [e1], e2, e3⟩
     · obtain ⟨e, e1, e2, e3⟩ := ih h; exact ⟨e, by simp [e1], e2, e3⟩
 obtain ⟨e, e1, e2, e3⟩ := this _ hj
 rw [<- e3]
 exact h2 e (Array.mem_toList_iff.1 e1) e2
theorem yfy {o0 o1 o2 o3 : Oper} (hT : zbw P T) (hops : ∀ o ∈ [o0, o1, o2, o3], ymx nt o) (hD : zmq [o0, o1, o2, o3])
   (d1 : zax o1.after.toList 0 = true) (d2 : zax o2.after.toList 0 = true) (d3 : zax o3.after.toList 1 = true) (d4 : zax o3.after.toList 2 = true) {Q : Exit -> Act -> World -> Prop}
   {f f1 f2 f3 f4 f2' f3' f4' : Nat -> Option AV} {g g1 g2 g3 g4 g2' g3' g4' : Nat -> Option Ob} {c c1 c2 c3 c4 c2' c3' c4' : Nat -> Bool}
   (h0 : ∀ a w K, zhy base M W nt f g c a w -> (∀ a w, zhy base M W nt f1 g1 c1 a w -> K a w) -> wpOp P [o0, o1, o2, o3].toArray Q 0 K a w)
   (h1 : ∀ a w K, zhy base M W nt f1 g1 c1 a w -> (∀ a w, zhy base M W nt f2 g2 c2 a w -> K a w) -> wpOp P [o0, o1, o2, o3].toArray Q 1 K a w)
   (h2 : ∀ a w K, zhy base M W nt f2 g2 c2 a w -> (∀ a w, zhy base M W nt f3 g3 c3 a w -> K a w) -> wpOp P [o0, o1, o2, o3].toArray Q 2 K a w)
   (h3 : ∀ a w K, zhy base M W nt f3 g3 c3 a w -> (∀ a w, zhy base M W nt f4 g4 c4 a w -> K a w) -> wpOp P [o0, o1, o2, o3].toArray Q 3 K a w)
   (h1' : ∀ a w K, zhy base M W nt f1 g1 c1 a w -> (∀ a w, zhy base M W nt f2' g2' c2' a w -> K a w) -> wpOp P [o0, o1, o2, o3].toArray Q 2 K a w)
   (h2' : ∀ a w K, zhy base M W nt f2' g2' c2' a w -> (∀ a w, zhy base M W nt f3' g3' c3' a w -> K a w) -> wpOp P [o0, o1, o2, o3].toArray Q 1 K a w)
   (h3' : ∀ a w K, zhy base M W nt f3' g3' c3' a w -> (∀ a w, zhy base M W nt f4' g4' c4' a w -> K a w) -> wpOp P [o0, o1, o2, o3].toArray Q 3 K a w)
   (hQ : ∀ a w, zhy base M W nt f4 g4 c4 a w -> Q .normal a w) (hQ' : ∀ a w, zhy base M W nt f4' g4' c4' a w -> Q .normal a w)
   {a : Act} {w : World} (hs : zhy base M W nt f g c a w) : wpAny P .any [o0, o1, o2, o3].toArray Q 4 #[false, false, false, false] a w := by
 have nd : ∀ (L : Array Bool), L.size = 4 -> (∃ j, j < 4 /\ L.getD j true = false) -> Region.ready .any [o0, o1, o2, o3].toArray L = [] -> False := by
   intro L hL hj hn
   obtain ⟨j, hj1, hj2⟩ := hj
   have := zsa hD (L := L) hL hn j hj1
   rw [this] at hj2; cases hj2
 have four : ∀ {i : Nat} {o : Oper}, [o0, o1, o2, o3][i]? = some o -> (i = 0 /\ o = o0) \/ (i = 1 /\ o = o1) \/ (i = 2 /\ o = o2) \/ (i = 3 /\ o = o3) := by
   intro i o h
   match i, h with
   | 0, h => cases h; simp
   | 1, h => cases h; simp
   | 2, h => cases h; simp
   | 3, h => cases h; simp
   | i + 4, h => simp at h
 refine ⟨fun hn => (nd _ rfl ⟨0, by omega, rfl⟩ hn).elim, fun i hi => ?_⟩
 obtain ⟨o, ho, hL, hd⟩ := zel hi
 rcases four ho with ⟨rfl, rfl⟩ | ⟨rfl, rfl⟩ | ⟨rfl, rfl⟩ | ⟨rfl, rfl⟩
 rotate_left
 · cases hd 0 d1
 · cases hd 0 d2
 · cases hd 1 d3
 refine h0 a w _ hs fun a w hs => ?_
 refine ⟨fun hn => (nd _ rfl ⟨1, by omega, rfl⟩ hn).elim, fun i hi => ?_⟩
 obtain ⟨o, ho, hL, hd⟩ := zel hi
 rcases four ho with ⟨rfl, rfl⟩ | ⟨rfl, rfl⟩ | ⟨rfl, rfl⟩ | ⟨rfl, rfl⟩
 · cases hL
 · refine h1 a w _ hs fun a w hs => ?_
   refine ⟨fun hn => (nd _ rfl ⟨2, by omega, rfl⟩ hn).elim, fun i hi => ?_⟩
   obtain ⟨o, ho, hL, hd⟩ := zel hi
   rcases four ho with ⟨rfl, rfl⟩ | ⟨rfl, rfl⟩ | ⟨rfl, rfl⟩ | ⟨rfl, rfl⟩
   · cases hL
   · cases hL
   · refine h2 a w _ hs fun a w hs => ?_
     refine ⟨fun hn => (nd _ rfl ⟨3, by omega, rfl⟩ hn).elim, fun i hi => ?_⟩
     obtain ⟨o, ho, hL, hd⟩ := zel hi
     rcases four ho with ⟨rfl, rfl⟩ | ⟨rfl, rfl⟩ | ⟨rfl, rfl⟩ | ⟨rfl, rfl⟩
     · cases hL
     · cases hL
     · cases hL
     · refine h3 a w _ hs fun a w hs => ?_
       refine ⟨?_, hQ a w hs⟩
       refine List.eq_nil_iff_forall_not_mem.2 fun i hi => ?_
       obtain ⟨o, ho, hL, hd⟩ := zel hi
       rcases four ho with ⟨rfl, rfl⟩ | ⟨rfl, rfl⟩ | ⟨rfl, rfl⟩ | ⟨rfl, rfl⟩ <;> cases hL
   · cases hd 2 d4
 · refine h1' a w _ hs fun a w hs => ?_
   refine ⟨fun hn => (nd _ rfl ⟨1, by omega, rfl⟩ hn).elim, fun i hi => ?_⟩
   obtain ⟨o, ho, hL, hd⟩ := zel hi
   rcases four ho with ⟨rfl, rfl⟩ | ⟨rfl, rfl⟩ | ⟨rfl, rfl⟩ | ⟨rfl, rfl⟩
   · cases hL
   · refine h2' a w _ hs fun a w hs => ?_
     refine ⟨fun hn => (nd _ rfl ⟨3, by omega, rfl⟩ hn).elim, fun i hi => ?_⟩
     obtain ⟨o, ho, hL, hd⟩ := zel hi
     rcases four ho with ⟨rfl, rfl⟩ | ⟨rfl, rfl⟩ | ⟨rfl, rfl⟩ | ⟨rfl, rfl⟩
     · cases hL
     · cases hL
     · cases hL
     · refine h3' a w _ hs fun a w hs => ?_
       refine ⟨?_, hQ' a w hs⟩
       refine List.eq_nil_iff_forall_not_mem.2 fun i hi => ?_
       obtain ⟨o, ho, hL, hd⟩ := zel hi
       rcases four ho with ⟨rfl, rfl⟩ | ⟨rfl, rfl⟩ | ⟨rfl, rfl⟩ | ⟨rfl, rfl⟩ <;> cases hL
   · cases hL
   · cases hd 1 d3
 · cases hd 1 d3
def ycs (nt : Nat) (draw : Bool) (ops : List Oper) : Bool := ops.all (yxb nt) && (!draw || zmd ops 0 ops)
theorem znt {Q1 : AV -> Prop} {v : Nat} {k : St -> zc6} {s : St} (hk : zn8 (za3 s.slots) s.kn) (h : Sat P Q1 (yjp v k s)) : ∃ s' : St, s'.slots = s.slots /\ s'.objs = s.objs /\ s'.ice = s.ice /\ zn8 (za3 s'.slots) s'.kn /\ Sat P Q1 (k s') := by
 unfold yjp at h
 split at h
 · rename_i b hb
   exact ⟨s.know v b, rfl, rfl, rfl, zef hk hb, h⟩
 · cases h
theorem zyn {S : zqc} {Q1 : AV -> Prop} (hT : zbw P T) (hS : zdr P S) (hm : P.follows .mixedOrders = true) {draw : Bool} (hB : ycs nt draw ops = true) {id : Nat} {s : St} {a : Act} {w : World} (hs : zmp base M W nt s a w)
   {k : St -> zc6} (h : Sat P Q1 (zd6 T std S draw ops ops 0 s [] k)) {Q : Exit -> Act -> World -> Prop} (hQ : ∀ s' a' w', zmp base M W nt s' a' w' -> Sat P Q1 (k s') -> Q .normal a' w') :
   (Code.region id ops.toArray draw).wp P Q a w := by
 unfold ycs at hB
 rw [Bool.and_eq_true, List.all_eq_true] at hB
 have hops : ∀ o ∈ ops, ymx nt o := fun o ho => ydf (hB.1 o ho)
 obtain ⟨es, s', hW, hk', h'⟩ := zez hS ops 0 s [] hs.2 h
 cases draw with
 | false =>
   refine wp_region ?_
   have := yb9 (base := base) (M := M) (W := W) hT hops (Q := Q) ops 0 _ _ _ _ es _ _ _ a w (fun k => by simp) hW hs.1 fun a' w' hs' => hQ s' a' w' ⟨hs', hk'⟩ h'
   rw [List.range_eq_range']
   simpa using this
 | true =>
   refine wp_region_any hm ?_
   have hD := zs0 (by simpa using hB.2 : zmd ops 0 ops = true)
   obtain ⟨hA, e1, e2, e3⟩ := yaz (ops := ops) (E := fun j => es.getD j nothing) (f0 := za3 s.slots) (g0 := za3 s.objs) (c0 := zbu s.ice) ops 0 _ _ _ _ es _ _ _ (fun k => by simp) (fun k e he => by simp [he]) rfl rfl rfl (fun k hk => by omega) hW
   rw [Nat.zero_add] at e1 e2 e3
   have hl : left (Array.replicate ops.length false) <= ops.toArray.size := by
     unfold left; simp
   have hsz : ops.toArray.size = ops.length := by simp
   rw [hsz] at hl |-
   refine ymv (E := fun j => es.getD j nothing) hT hops hD (fun j o ho => hA j o (by omega) ho) (fun a' w' hs' => hQ s' a' w' ⟨by rw [e1, e2, e3]; exact hs', hk'⟩ h') ops.length _ a _ hl ⟨by simp, ?_, ?_⟩
   · intro k o e hk hL _ _
     have hk : k < ops.length := (List.getElem?_eq_some_iff.1 hk).1
     simp [hk] at hL
   · have z : ∀ j, j < ops.length -> (fun i => (Array.replicate ops.length false).getD i false) j = false := fun j hj => by simp [hj]
     have h1 : fL ops (fun j => es.getD j nothing) (za3 s.slots) (fun i => (Array.replicate ops.length false).getD i false) ops.length = za3 s.slots := by
       funext t
       exact zio 0 ops.length (fun j _ hj hL => by have := z j hj; simp only at this; rw [this] at hL; cases hL) (by omega)
     have h2 : gL (fun j => es.getD j nothing) (za3 s.objs) (fun i => (Array.replicate ops.length false).getD i false) ops.length = za3 s.objs := by
       funext t
       exact zio 0 ops.length (fun j _ hj hL => by have := z j hj; simp only at this; rw [this] at hL; cases hL) (by omega)
     have h3 : cL (fun j => es.getD j nothing) (zbu s.ice) (fun i => (Array.replicate ops.length false).getD i false) ops.length = zbu s.ice := by
       funext t
       exact zmn 0 ops.length (fun j _ hj => z j hj) (by omega)
     rw [h1, h2, h3]
     obtain ⟨D, μ, hs⟩ := hs.1
     exact ⟨D, μ, hs.drew⟩
theorem ycr {S : zqc} {Q1 : AV -> Prop} (hT : zbw P T) (hS : zdr P S) (hm : P.follows .mixedOrders = true) {draw : Bool} (hB : ycs nt draw ops = true) {id : Nat} {s : St} {a : Act} {w : World} (hs : zmp base M W nt s a w)
   {k : St -> zc6} (h : Sat P Q1 (zt3 T std S draw ops s k)) {Q : Exit -> Act -> World -> Prop} (hQ : ∀ s' a' w', zmp base M W nt s' a' w' -> Sat P Q1 (k s') -> Q .normal a' w') :
   (Code.region id ops.toArray draw).wp P Q a w := by
 unfold zt3 at h
 split at h
 rotate_left
 · exact zyn hT hS hm hB hs h hQ
 rename_i v hch
 cases draw with
 | false => cases hch
 | true =>
   simp only [cond_true] at hch
   unfold yfz at hch
   split at hch
   rotate_left
   · cases hch
   rename_i o0 o1 o2 o3
   split at hch
   rotate_left
   · cases hch
   split at hch
   rotate_left
   · cases hch
   rename_i d1 d2 d3 d4 hng
   unfold ycs at hB
   rw [Bool.and_eq_true, List.all_eq_true] at hB
   have hops : ∀ o ∈ [o0, o1, o2, o3], ymx nt o := fun o ho => ydf (hB.1 o ho)
   have hD := zs0 (by simpa using hB.2 : zmd [o0, o1, o2, o3] 0 [o0, o1, o2, o3] = true)
   obtain ⟨n0, n1, n2, n3⟩ : o0.guard = none /\ o1.guard = none /\ o2.guard = none /\ o3.guard = none := by
     simp only [ztn] at hng
     cases e0 : o0.guard <;> cases e1 : o1.guard <;> cases e2 : o2.guard <;> cases e3 : o3.guard <;> simp_all
   obtain ⟨es, s1, hW, hk1, h⟩ := zez hS [o0] 0 s [] hs.2 h
   cases h with
   | and hA hB2 =>
     obtain ⟨esA, sA, hWA, hkA, hA⟩ := zez hS [o1, o2, o3] 1 s1 [] hk1 hA
     obtain ⟨esB, sB, hWB, hkB, hB2⟩ := zez hS [o2, o1, o3] 1 s1 [] hk1 hB2
     obtain ⟨sA', q1, q2, q3, hkA', hA⟩ := znt hkA hA
     obtain ⟨sB', p1, p2, p3, hkB', hB2⟩ := znt hkB hB2
     match es, hW with
     | [e0], ⟨x0, _, w0, w0', w0''⟩ =>
       match esA, hWA with
       | [a1, a2, a3], ⟨xa1, _, xa2, _, xa3, _, wa, wa', wa''⟩ =>
         match esB, hWB with
         | [b1, b2, b3], ⟨xb1, _, xb2, _, xb3, _, wb, wb', wb''⟩ =>
           refine wp_region_any hm ?_
           obtain ⟨D, μ, hs0⟩ := hs.1
           rw [w0, w0', w0''] at xa1 xa2 xa3 xb1 xb2 xb3
           rw [w0] at wa wb
           rw [w0'] at wa' wb'
           rw [w0''] at wa'' wb''
           refine yfy hT hops hD d1 d2 d3 d4
             (h0 := fun a w K hs hK => zp3 hT hs hops rfl x0 hK)
             (h1 := fun a w K hs hK => zp3 hT hs hops rfl xa1 hK)
             (h2 := fun a w K hs hK => zp3 hT hs hops rfl xa2 hK)
             (h3 := fun a w K hs hK => zp3 hT hs hops rfl xa3 hK)
             (h1' := fun a w K hs hK => zp3 hT hs hops rfl xb1 hK)
             (h2' := fun a w K hs hK => zp3 hT hs hops rfl xb2 hK)
             (h3' := fun a w K hs hK => zp3 hT hs hops rfl xb3 hK)
             (hQ := fun a w hs => hQ sA' a w ⟨?_, hkA'⟩ hA) (hQ' := fun a w hs => hQ sB' a w ⟨?_, hkB'⟩ hB2) ⟨D, μ, hs0.drew⟩
           · rw [q1, q2, q3, wa, wa', wa'']; exact hs
           · rw [p1, p2, p3, wb, wb', wb'']; exact hs
end
end Sy
end Go.Proofs.YtogpolfhcbgcbaaGreatDoor
namespace Go.Proofs.YtogpolfhcbgcbaaGreatDoor
namespace Sy
open Go Go.RowKit
set_option linter.unusedSimpArgs false
set_option linter.unusedVariables false
set_option linter.unusedSectionVars false
section
variable {P : Program} {Q : AV -> Prop} {base : Nat} {M : Two} {W : World} {nt : Nat} {s tm : St} {a : Act} {w : World} {hold : List Nat} {next : zc6}
def frz (ice : List Nat) (objs : List (Nat × Ob)) (F : List (Nat × Option Nat)) : List Nat := match objs with
 | [] => []
 | (t, _) :: r => match za3 F t with
   | some (some id) => if zbu ice t = true then id :: frz ice r F else frz ice r F
   | _ => frz ice r F
theorem zm5 {ice : List Nat} {F : List (Nat × Option Nat)} : ∀ {objs : List (Nat × Ob)} {id : Nat}, id ∈ frz ice objs F -> ∃ t, za3 F t = some (some id) /\ zbu ice t = true /\ za3 objs t ≠ none
 | [], id, h => by cases h
 | (t, o) :: r, id, h => by
   unfold frz at h
   have up : ∀ {t'}, za3 r t' ≠ none -> za3 ((t, o) :: r) t' ≠ none := by
     intro t' h
     unfold za3
     split
     · simp
     · exact h
   split at h
   · rename_i k hk
     split at h
     · rename_i e
       rcases List.mem_cons.1 h with rfl | h
       · exact ⟨t, hk, e, by simp [za3, za6]⟩
       · obtain ⟨t', h1, h2, h3⟩ := zm5 h; exact ⟨t', h1, h2, up h3⟩
     · obtain ⟨t', h1, h2, h3⟩ := zm5 h; exact ⟨t', h1, h2, up h3⟩
   · obtain ⟨t', h1, h2, h3⟩ := zm5 h; exact ⟨t', h1, h2, up h3⟩
theorem ydu {ice : List Nat} {F : List (Nat × Option Nat)} : ∀ {objs : List (Nat × Ob)} {id t : Nat}, za3 F t = some (some id) -> zbu ice t = true -> za3 objs t ≠ none -> id ∈ frz ice objs F
 | [], id, t, _, _, h => by simp [za3] at h
 | (k, o) :: r, id, t, h1, h2, h3 => by
   unfold frz
   unfold za3 at h3
   cases e : zat k t with
   | true =>
     have := za4 e; subst this
     rw [h1]
     simp only
     rw [if_pos h2]
     simp
   | false =>
     rw [e] at h3
     have ih := ydu (objs := r) h1 h2 h3
     split
     · split
       · exact List.mem_cons_of_mem _ ih
       · exact ih
     · exact ih
theorem zll : ∀ {F : List (Nat × Option Nat)}, ztg F = true -> ∀ t x, za3 F t = some x -> zfu t = true -> x = some t
 | [], _, t, x, h, _ => by cases h
 | (k, y) :: r, e, t, x, h, hp => by
   unfold ztg at e
   unfold za3 at h
   split at h
   · rename_i hb
     have hk := za4 hb; subst hk
     cases h
     rw [hp] at e
     simp only at e
     split at e
     · rename_i hi; exact yee hi
     · cases e
   · have e' : ztg r = true := by
       split at e
       · split at e
         · exact e
         · cases e
       · exact e
     exact zll e' t x h hp
theorem yt7 {pin : Nat -> Option (Nat × Nat × Nat)} {μ : Mu} {F : List (Nat × Option Nat)} (h : ∀ id y, zfu id = true -> μ id = some y -> y = pin id) (hF : ztg F = true) {id : Nat} {y : Option (Nat × Nat × Nat)} (hp : zfu id = true) (hy : zev μ F id = some y) : y = pin id := by
 unfold zev at hy
 split at hy
 · rename_i k hk
   have := zll hF id _ hk hp
   cases this
   exact h id y hp hy
 · rename_i hk
   have := zll hF id _ hk hp
   cases this
 · cases hy
theorem ydv (hs : zmp base M W nt s a w) (h : Sat P Q (zz2 s tm hold next)) (hkn : tm.kn = []) : zmp base M W nt tm a w /\ Sat P Q next := by
 unfold zz2 at h
 split at h
 · rename_i m1 e1
   split at h
   · rename_i m2 e2
     split at h
     · rename_i hin hice hpin
       obtain ⟨hps, hnext⟩ := zi8 h
       refine ⟨?_, hnext⟩
       obtain ⟨⟨D, μ, S⟩, _⟩ := hs
       let F := m2.ids
       obtain ⟨x2, -⟩ := zdc (h := w.heap) (D := D) (μ := μ) e2
       obtain ⟨x1, -⟩ := zen (h := w.heap) (D := D) (μ := μ) (a := a) e1
       have hF2 : Fin m2 F := ⟨fun _ _ h => h, hps⟩
       have hF1 : Fin m1 F := hF2.of x2
       have hInj : Inj F := x2.inj (x1.inj fun t t' id h1 h2 => by
         have q1 := zqs h1; have q2 := zqs h2
         simp only [Option.some.injEq] at q1 q2
         rw [<- q1, <- q2])
       have hal : ∀ id, id ∈ frz tm.ice tm.objs F -> ∃ o, za3 s.objs id = some o /\ o ≠ .gone := by
         intro id hid
         obtain ⟨t, h1, h2, h3⟩ := zm5 hid
         obtain ⟨o, ho⟩ := Option.ne_none_iff_exists'.1 h3
         obtain ⟨x2', r2⟩ := zdc (h := w.heap) (D := D) (μ := μ) e2
         obtain ⟨x, hx, hp⟩ := (r2 F hF2 t o ho).pair
         rw [h1] at hx
         cases hx
         obtain ⟨_, o', ho', hne, _⟩ := hp
         exact ⟨o', ho', hne⟩
       have S' := S.freeze (frz tm.ice tm.objs F) hal
       obtain ⟨_, r1⟩ := zen (h := w.heap) (D := fun b => D b \/ ∃ id z m, id ∈ frz tm.ice tm.objs F /\ μ id = some (some (b, z, m))) (μ := μ) (a := a) e1
       obtain ⟨_, r2⟩ := zdc (h := w.heap) (D := fun b => D b \/ ∃ id z m, id ∈ frz tm.ice tm.objs F /\ μ id = some (some (b, z, m))) (μ := μ) e2
       generalize hDD : (fun b => D b \/ ∃ id z m, id ∈ frz tm.ice tm.objs F /\ μ id = some (some (b, z, m))) = D' at S' r1 r2
       have r1 := r1 F hF1 S'.slots
       have r2 := r2 F hF2
       have pl : ∀ tid b z, zev μ F tid = some (some (b, z)) -> ∃ id, za3 F tid = some (some id) /\ μ id = some (some (b, z)) := by
         intro tid b z hm
         unfold zev at hm
         split at hm
         · rename_i id hid; exact ⟨id, hid, hm⟩
         · cases hm
         · cases hm
       have obj : ∀ tid id, za3 F tid = some (some id) -> ∃ o', za3 s.objs id = some o' /\ o' ≠ .gone /\ (zbu s.ice id = true -> zbu tm.ice tid = true) := by
         intro tid id hid
         obtain ⟨o, ho⟩ := Option.ne_none_iff_exists'.1 (ziq hin tid _ hid)
         obtain ⟨x, hx, hp⟩ := (r2 tid o ho).pair
         rw [show za3 F tid = za3 m2.ids tid from rfl, hx] at hid
         cases hid
         obtain ⟨h1, o', ho', hne, _⟩ := hp
         exact ⟨o', ho', hne, h1⟩
       refine ⟨⟨D', zev μ F, { S' with slots := r1, dom := fun id => ?_, obs := fun id o x h1 h2 => ?_, inj := ?_, own := fun id b z hm => ?_, kd := ?_, icy := fun id hc => zrl hice id hc, pin := fun id y hp hy => yt7 S.pin hpin hp hy }⟩, fun t b ht => by rw [hkn] at ht; cases ht⟩
       · constructor
         · intro hm
           refine Decidable.byContradiction fun ho => ?_
           obtain ⟨o, ho⟩ := Option.ne_none_iff_exists'.1 ho
           obtain ⟨x, hx, hp⟩ := (r2 id o ho).pair
           unfold zev at hm
           rw [hx] at hm
           cases x with
           | none => cases hm
           | some k =>
             simp only at hm hp
             obtain ⟨_, o', ho', _, _⟩ := hp
             have := (S.dom k).1 hm
             rw [ho'] at this; cases this
         · intro ho
           unfold zev
           cases hf : za3 F id with
           | none => rfl
           | some x => exact absurd ho (ziq hin id x hf)
       · obtain ⟨y, hy, hp⟩ := (r2 id o h1).pair
         unfold zev at h2
         rw [hy] at h2
         cases y with
         | none => cases h2; exact hp
         | some k =>
           simp only at h2 hp
           obtain ⟨_, o', ho', _, hr⟩ := hp
           exact hr x (S'.obs k o' x ho' h2)
       · intro id id' b z z' o o' h1 h2 _ _ _ _
         obtain ⟨k, hk, hm⟩ := pl id b z h1
         obtain ⟨k', hk', hm'⟩ := pl id' b z' h2
         obtain ⟨q, hq, hqn, _⟩ := obj id k hk
         obtain ⟨q', hq', hqn', _⟩ := obj id' k' hk'
         have := S.inj k k' b z z' q q' hm hm' hq hq' hqn hqn'
         subst this
         exact hInj _ _ _ hk hk'
       · obtain ⟨k, hk, hm⟩ := pl id b z hm
         exact S.own k b z hm
       · intro id b z o h1 h2 h3
         obtain ⟨k, hk, hm⟩ := pl id b z h1
         obtain ⟨q, hq, hqn, hic⟩ := obj id k hk
         have K := S'.kd k b z q hm hq hqn
         refine ⟨fun hc => K.1 ?_, fun hc => K.2 ?_⟩
         · unfold zkv
           rw [zc9.2 (ydu hk hc (by rw [h2]; simp))]; rfl
         · unfold zkv
           rw [Bool.or_eq_false_iff]
           refine ⟨?_, ?_⟩
           · cases hl : zbu (frz tm.ice tm.objs F) k with
             | false => rfl
             | true =>
               obtain ⟨t, t1, t2, _⟩ := zm5 (zc9.1 hl)
               have := hInj _ _ _ t1 hk
               subst this
               rw [hc] at t2; cases t2
           · cases hl : zbu s.ice k with
             | false => rfl
             | true => have := hic hl; rw [hc] at this; cases this
     · cases h
   · cases h
 · cases h
theorem zlu (hs : zmp base M W nt s a w) (h : Sat P Q (zz2 s tm hold next)) : ∀ n o, za3 tm.objs n = some o -> o ≠ .gone := by
 unfold zz2 at h
 split at h
 · rename_i m1 e1
   split at h
   · rename_i m2 e2
     split at h
     · obtain ⟨hps, hnext⟩ := zi8 h
       intro n o ho
       obtain ⟨x2, r2⟩ := zdc (h := #[]) (D := fun _ => False) (μ := zav) e2
       exact (r2 m2.ids ⟨fun _ _ h => h, hps⟩ n o ho).live
     · cases h
   · cases h
 · cases h
end
end Sy
end Go.Proofs.YtogpolfhcbgcbaaGreatDoor
namespace Go.Proofs.YtogpolfhcbgcbaaGreatDoor
namespace Sy
open Go Go.RowKit
set_option linter.unusedSimpArgs false
set_option linter.unusedVariables false
set_option linter.unusedSectionVars false
def ysi : Ex -> Exit
 | .normal => .normal
 | .exit id => .exit id
 | .goto l => .goto l
 | .ret => .ret
def zgp : Code -> List Code
 | .seq a b => zgp a ++ zgp b
 | .skip => []
 | .label _ => []
 | c => [c]
def WPl (P : Program) : List Code -> (Exit -> Act -> World -> Prop) -> Act -> World -> Prop
 | [], Q, a, w => Q .normal a w
 | c :: cs, Q, a, w => c.wp P (Exit.then (WPl P cs Q) Q) a w
theorem zfj {P : Program} {Q : Exit -> Act -> World -> Prop} : Exit.then (WPl P [] Q) Q = Q := by
 funext e a w; cases e <;> rfl
theorem yas {P : Program} {ys : List Code} {Q : Exit -> Act -> World -> Prop} : ∀ {xs : List Code}, WPl P (xs ++ ys) Q = WPl P xs (Exit.then (WPl P ys Q) Q)
 | [] => rfl
 | c :: xs => by
   funext a w
   show c.wp P (Exit.then (WPl P (xs ++ ys) Q) Q) a w = c.wp P (Exit.then (WPl P xs (Exit.then (WPl P ys Q) Q)) (Exit.then (WPl P ys Q) Q)) a w
   rw [yas (xs := xs)]
   congr 1
   funext e a w
   cases e <;> rfl
theorem yat {P : Program} {c : Code} {Q : Exit -> Act -> World -> Prop} {a : Act} {w : World} (h : WPl P [c] Q a w) : c.wp P Q a w := by
 have : c.wp P (Exit.then (WPl P [] Q) Q) a w := h
 rwa [zfj] at this
theorem ze5 {P : Program} : ∀ {c : Code} {Q : Exit -> Act -> World -> Prop} {a : Act} {w : World}, WPl P (zgp c) Q a w -> c.wp P Q a w := by
 intro c
 induction c with
 | seq x y ih1 ih2 =>
   intro Q a w h
   unfold zgp at h
   rw [yas] at h
   refine wp_seq (wp_mono (ih1 h) fun e a w hq => ?_)
   cases e with
   | normal => exact ih2 hq
   | _ => exact hq
 | skip => intro Q a w h; exact wp_skip h
 | label l => intro Q a w h; exact wp_label h
 | _ => intro Q a w h; exact yat h
def zk7 : List Nat -> Bool
 | [] => true
 | x :: xs => !zbu xs x && zk7 xs
def zc3 (nt : Nat) : Code -> Bool
 | .region _ ops d => ycs nt d ops.toList
 | .seq a b => zc3 nt a && zc3 nt b
 | .cond _ a b => zc3 nt a && zc3 nt b
 | .block _ b => zc3 nt b
 | .loop b => zc3 nt b
 | .scope b => zk7 (zdg b) && zc3 nt b
 | _ => true
theorem zps : ∀ {c : Code} {l : Nat} {r : Code}, findLabel c l = some r -> l ∈ zdg c := by
 intro c
 induction c with
 | seq a b ih1 ih2 =>
   intro l r h
   unfold findLabel at h
   simp only [zdg, zau, List.mem_append]
   cases e : findLabel a l with
   | some x => exact .inl (ih1 e)
   | none => rw [e] at h; exact .inr (ih2 h)
 | label l' =>
   intro l r h
   unfold findLabel at h
   split at h
   · rename_i e; simp [zdg, beq_iff_eq.1 e]
   · cases h
 | _ => intro l r h; simp [findLabel] at h
theorem yf7 {nt : Nat} : ∀ {c : Code} {l : Nat} {r : Code}, findLabel c l = some r -> zc3 nt c = true -> zc3 nt r = true := by
 intro c
 induction c with
 | seq a b ih1 ih2 =>
   intro l r h hc
   unfold zc3 at hc
   rw [Bool.and_eq_true] at hc
   unfold findLabel at h
   cases e : findLabel a l with
   | some x =>
     rw [e] at h
     cases h
     unfold zc3
     rw [Bool.and_eq_true]
     exact ⟨ih1 e hc.1, hc.2⟩
   | none => rw [e] at h; exact ih2 h hc.2
 | label l' =>
   intro l r h _
   unfold findLabel at h
   split at h
   · cases h; rfl
   · cases h
 | _ => intro l r h; simp [findLabel] at h
theorem ydl {xs ys : List Nat} (h : zk7 (xs ++ ys) = true) : zk7 xs = true /\ zk7 ys = true /\ ∀ l, l ∈ xs -> l ∉ ys := by
 induction xs with
 | nil => exact ⟨rfl, h, fun l hl => by cases hl⟩
 | cons x xs ih =>
   simp only [List.cons_append, zk7, Bool.and_eq_true, Bool.not_eq_true'] at h |-
   obtain ⟨h1, h2⟩ := h
   obtain ⟨i1, i2, i3⟩ := ih h2
   have hx : x ∉ xs ++ ys := fun hm => by rw [zc9.2 hm] at h1; cases h1
   simp only [List.mem_append, not_or] at hx
   refine ⟨⟨?_, i1⟩, i2, fun l hl => ?_⟩
   · cases e : zbu xs x with
     | false => rfl
     | true => exact absurd (zc9.1 e) hx.1
   · rcases List.mem_cons.1 hl with rfl | hl
     · exact hx.2
     · exact i3 l hl
theorem yf8 : ∀ {c : Code} {l0 l : Nat} {r c' : Code}, zk7 (zdg c) = true -> findLabel c l0 = some r -> findLabel r l = some c' -> ∃ c'', findLabel c l = some c'' /\ zgp c'' = zgp c' := by
 intro c
 induction c with
 | seq a b ih1 ih2 =>
   intro l0 l r c' hn h h'
   simp only [zdg, zau] at hn
   obtain ⟨n1, n2, n3⟩ := ydl hn
   have none_of : ∀ {x}, findLabel b l = some x -> findLabel a l = none := by
     intro x hx
     cases e : findLabel a l with
     | none => rfl
     | some y => exact absurd (zps hx) (n3 l (zps e))
   unfold findLabel at h
   cases e : findLabel a l0 with
   | some x =>
     rw [e] at h
     cases h
     unfold findLabel at h'
     cases e' : findLabel x l with
     | some y =>
       rw [e'] at h'
       cases h'
       obtain ⟨c'', h1, h2⟩ := ih1 n1 e e'
       exact ⟨.seq c'' b, by simp [findLabel, h1], by simp [zgp, h2]⟩
     | none =>
       rw [e'] at h'
       exact ⟨c', by simp only [findLabel]; rw [none_of h']; exact h', rfl⟩
   | none =>
     rw [e] at h
     obtain ⟨c'', h1, h2⟩ := ih2 n2 h h'
     exact ⟨c'', by simp only [findLabel]; rw [none_of h1]; exact h1, h2⟩
 | label l' =>
   intro l0 l r c' _ h h'
   unfold findLabel at h
   split at h
   · cases h; simp [findLabel] at h'
   · cases h
 | _ => intro l0 l r c' _ h; simp [findLabel] at h
inductive ys6 (P : Program) (Q : Exit -> Act -> World -> Prop) (body : Code) : Code -> Act -> World -> Prop
 | mk {c : Code} {a : Act} {w : World} (R : Exit -> Act -> World -> Prop) (h : c.wp P R a w)
     (hn : ∀ e a' w', R e a' w' -> (∀ l rest, e = .goto l -> findLabel body l = some rest -> False) -> Q e a' w')
     (hg : ∀ l rest a' w', R (.goto l) a' w' -> findLabel body l = some rest -> ys6 P Q body rest a' w') : ys6 P Q body c a w
def Qg (P : Program) (Q : Exit -> Act -> World -> Prop) (body : Code) : Exit -> Act -> World -> Prop
 | .goto l, a, w => match findLabel body l with
   | some rest => ys6 P Q body rest a w
   | none => Q (.goto l) a w
 | e, a, w => Q e a w
theorem yex {P : Program} {Q : Exit -> Act -> World -> Prop} {body c : Code} {a : Act} {w : World} (h : c.wp P (Qg P Q body) a w) : ys6 P Q body c a w := by
 refine .mk _ h (fun e a' w' hq hno => ?_) (fun l rest a' w' hq hf => ?_)
 · cases e with
   | goto l =>
     simp only [Qg] at hq
     split at hq
     · rename_i rest hf; exact (hno l rest rfl hf).elim
     · exact hq
   | _ => exact hq
 · simp only [Qg] at hq
   rw [hf] at hq
   exact hq
theorem ypp {P : Program} {Q : Exit -> Act -> World -> Prop} {body : Code} {c : Code} {a : Act} {w : World} (g : ys6 P Q body c a w) :
   ∀ (b : Frame) (k : List Item) (cs : List Frame), ∃ e a' w', Q e a' w' /\ Arrives P (lone (b.at a (.code c :: .inScope body :: k)) cs w) b k cs e a' w' := by
 induction g with
 | mk R h hn hg ih =>
   intro b k cs
   obtain ⟨e, a₁, w₁, hq, harr⟩ := h b (.inScope body :: k) cs
   cases e with
   | normal => exact ⟨.normal, a₁, w₁, hn _ _ _ hq (fun _ _ h => by cases h), Steps.trans harr (.one step_inScope)⟩
   | exit id => exact ⟨.exit id, a₁, w₁, hn _ _ _ hq (fun _ _ h => by cases h), fun k' hk => harr k' (by simp [exitTo, hk])⟩
   | goto l =>
     cases hf : findLabel body l with
     | some rest =>
       obtain ⟨e₂, a₂, w₂, hq₂, harr₂⟩ := ih l rest a₁ w₁ hq hf b k cs
       exact ⟨e₂, a₂, w₂, hq₂, .of_steps (harr _ (by simp [gotoIn, hf])) harr₂⟩
     | none =>
       refine ⟨.goto l, a₁, w₁, hn _ _ _ hq (fun l' r h hf' => by cases h; rw [hf] at hf'; cases hf'), fun k' hk => harr k' (by simp [gotoIn, hf, hk])⟩
   | ret => exact ⟨_, a₁, w₁, hn _ _ _ hq (fun _ _ h => by cases h), harr⟩
   | panic ch => exact ⟨_, a₁, w₁, hn _ _ _ hq (fun _ _ h => by cases h), harr⟩
   | outgrown => exact ⟨_, a₁, w₁, hn _ _ _ hq (fun _ _ h => by cases h), harr⟩
theorem zol {P : Program} {Q : Exit -> Act -> World -> Prop} {body : Code} {a : Act} {w : World} (g : ys6 P Q body body a w) : (Code.scope body).wp P Q a w := by
 intro b k cs
 obtain ⟨e, a₁, w₁, hq, harr⟩ := ypp g b k cs
 exact ⟨e, a₁, w₁, hq, .of_steps (.one step_scope) harr⟩
section
variable {P : Program} {T : TT} {S : zqc} {lo lb : Nat -> St -> Option Ann} {base : Nat} {M : Two} {W : World} {nt : Nat} {Q1 : AV -> Prop}
def Kon (P : Program) (base : Nat) (M : Two) (W : World) (nt : Nat) (Q1 : AV -> Prop) (k : K) (Q : Exit -> Act -> World -> Prop) : Prop := ∀ e s a w, zmp base M W nt s a w -> Sat P Q1 (k e s) -> Q (ysi e) a w
def ScOk (P : Program) (base : Nat) (M : Two) (W : World) (nt : Nat) (Q1 : AV -> Prop) (sc : Code -> St -> K -> zc6) : Prop :=
 ∀ body s k Q a w, zc3 nt (.scope body) = true -> zmp base M W nt s a w -> Sat P Q1 (sc body s k) -> Kon P base M W nt Q1 k Q -> (Code.scope body).wp P Q a w
theorem zf8 {an : Ann} {ks : List (Nat × AV)} {ko : List (Nat × Ob)} {ice : List Nat} {m : Option Nat} {s : St} {a : Act} {w : World} (hs : zmp base M W nt s a w) (h : Sat P Q1 (zfr an ks ko ice m s)) :
   ∃ x, an.inv x /\ (∀ m0, m = some m0 -> an.mu x < m0) /\ zmp base M W nt (an.st ks ko ice x) a w := by
 unfold zfr at h
 cases h with
 | ex x h =>
   obtain ⟨h1, h2⟩ := ydv hs h rfl
   cases h2 with
   | must h3 h4 =>
     refine ⟨x, h3, fun m0 hm => ?_, h1⟩
     subst hm
     cases h4 with | must h5 _ => exact h5
theorem ycj {sc : Code -> St -> K -> zc6} {A : Nat -> Bool} {id : Nat} {b : Code} (hb : ∀ body, b ≠ .loop body) {s : St} {k : K} :
   run T std S lo sc A (.block id b) s k = run T std S lo sc noL b s (fun e s' => match e with
   | .exit j => match zat j id with
     | true => k .normal s'
     | false => k (.exit j) s'
   | e => k e s') := by
 cases b <;> first | rfl | exact absurd rfl (hb _)
def yrj (P : Program) (T : TT) (S : zqc) (lo : Nat -> St -> Option Ann) (base : Nat) (M : Two) (W : World) (nt : Nat) (Q1 : AV -> Prop) (sc : Code -> St -> K -> zc6) (c : Code) : Prop := zc3 nt c = true ->
   ∀ (A : Nat -> Bool) (s : St) (k : K) (Q : Exit -> Act -> World -> Prop) (ys : List Code) (a : Act) (w : World), zmp base M W nt s a w -> Sat P Q1 (run T std S lo sc A c s k) ->
   Kon P base M W nt Q1 k (Exit.then (WPl P ys Q) Q) ->
   (∀ l c' s' a' w', A l = true -> findLabel c l = some c' -> zmp base M W nt s' a' w' -> Sat P Q1 (k (.goto l) s') -> WPl P (zgp c' ++ ys) Q a' w') -> WPl P (zgp c ++ ys) Q a w
theorem ynw (hT : zbw P T) (hS : zdr P S) (hm : P.follows .mixedOrders = true) {sc : Code -> St -> K -> zc6} (hsc : ScOk P base M W nt Q1 sc) : ∀ (c : Code),
   yrj P T S lo base M W nt Q1 sc c /\ (∀ body, c = .loop body -> yrj P T S lo base M W nt Q1 sc body) := by
 intro c
 induction c with
 | skip => refine ⟨?_, fun body e => by cases e⟩; intro _ A s k Q ys a w hs h hk _; exact hk .normal s a w hs h
 | region id ops d =>
   refine ⟨?_, fun body e => by cases e⟩
   intro hc A s k Q ys a w hs h hk _
   show (Code.region id ops d).wp P (Exit.then (WPl P ys Q) Q) a w
   have := ycr (id := id) (Q := Exit.then (WPl P ys Q) Q) hT hS hm hc hs h (fun s' a' w' hs' h' => hk .normal s' a' w' hs' h')
   simpa using this
 | seq x y ih1 ih2 =>
   refine ⟨?_, fun body e => by cases e⟩
   intro hc A s k Q ys a w hs h hk hl
   unfold zc3 at hc
   rw [Bool.and_eq_true] at hc
   show WPl P ((zgp x ++ zgp y) ++ ys) Q a w
   rw [List.append_assoc]
   refine ih1.1 hc.1 A s _ Q (zgp y ++ ys) a w hs h (fun e s' a' w' hs' h' => ?_) (fun l c' s' a' w' hA hf hs' h' => ?_)
   · cases e with
     | normal =>
       refine ih2.1 hc.2 _ s' k Q ys a' w' hs' h' hk (fun l c' s2 a2 w2 hA hf hs2 h2 => hl l c' s2 a2 w2 ?_ ?_ hs2 h2)
       · split at hA
         · cases hA
         · exact hA
       · split at hA
         · cases hA
         · rename_i e; simp only [findLabel]; rw [e]; exact hf
     | exit id => exact hk (.exit id) s' a' w' hs' h'
     | goto l => exact hk (.goto l) s' a' w' hs' h'
     | ret => exact hk .ret s' a' w' hs' h'
   · have := hl l (.seq c' y) s' a' w' hA (by simp [findLabel, hf]) hs' h'
     simpa [zgp] using this
 | cond x p q ih1 ih2 =>
   refine ⟨?_, fun body e => by cases e⟩
   intro hc A s k Q ys a w hs h hk _
   unfold zc3 at hc
   rw [Bool.and_eq_true] at hc
   show (Code.cond x p q).wp P (Exit.then (WPl P ys Q) Q) a w
   have yes : ∀ (k1 : K) (s1 : St), zmp base M W nt s1 a w -> Sat P Q1 (run T std S lo sc noL p s1 k1) -> Kon P base M W nt Q1 k1 (Exit.then (WPl P ys Q) Q) -> p.wp P (Exit.then (WPl P ys Q) Q) a w := fun k1 s1 h1 h2 hk1 => ze5 (by
     have := ih1.1 hc.1 noL s1 k1 (Exit.then (WPl P ys Q) Q) [] a w h1 h2 (by rw [zfj]; exact hk1) (fun l c' s' a' w' hA => by cases hA)
     simpa using this)
   have no : ∀ (k1 : K) (s1 : St), zmp base M W nt s1 a w -> Sat P Q1 (run T std S lo sc noL q s1 k1) -> Kon P base M W nt Q1 k1 (Exit.then (WPl P ys Q) Q) -> q.wp P (Exit.then (WPl P ys Q) Q) a w := fun k1 s1 h1 h2 hk1 => ze5 (by
     have := ih2.1 hc.2 noL s1 k1 (Exit.then (WPl P ys Q) Q) [] a w h1 h2 (by rw [zfj]; exact hk1) (fun l c' s' a' w' hA => by cases hA)
     simpa using this)
   have lit : ∀ b, litOf s.kn x = some b -> a.eval x = .bool b := by
     intro b hb
     cases x with
     | tmp t =>
       obtain ⟨⟨D, μ, S⟩, hkn⟩ := hs
       exact (S.slots t _ (hkn t b hb)).inv_bool
     | const v => cases v <;> simp [litOf] at hb; subst hb; rfl
     | _ => simp [litOf] at hb
   have one : ∀ v : Bool, litOf s.kn x = some v -> ∀ k1 : K, Kon P base M W nt Q1 k1 (Exit.then (WPl P ys Q) Q) -> Sat P Q1 (match v with | true => run T std S lo sc noL p s k1 | false => run T std S lo sc noL q s k1) -> (Code.cond x p q).wp P (Exit.then (WPl P ys Q) Q) a w := by
     intro v e k1 hk1 h2
     cases v with
     | true => exact wp_cond_true (lit true e) (yes k1 s hs h2 hk1)
     | false => exact wp_cond_false (lit false e) (no k1 s hs h2 hk1)
   unfold run at h
   split at h
   · rename_i v e
     replace one := one v e
     clear e
     split at h
     · exact one k hk h
     · rename_i an _
       split at h
       · rename_i ks _
         split at h
         · rename_i ko _
           cases h with
           | and h1 h2 =>
             refine one _ (fun e s' a' w' hs' h' => ?_) h1
             cases e with
             | normal =>
               obtain ⟨y, hy, _, hsy⟩ := zf8 hs' (show Sat P Q1 (zfr an ks ko s.ice none s') from h')
               cases h2 with
               | all h2 => cases h2 y with
                 | sup h3 => exact hk .normal _ a' w' hsy (h3 hy)
             | exit j => exact hk (.exit j) s' a' w' hs' h'
             | goto l => exact hk (.goto l) s' a' w' hs' h'
             | ret => exact hk .ret s' a' w' hs' h'
         · cases h
       · cases h
   · split at h
     · rename_i t _ _
       split at h
       · rename_i b hb
         have he : a.eval (.tmp t) = .bool b := by
           obtain ⟨⟨D, μ, S⟩, hkn⟩ := hs
           exact (S.slots t _ hb).inv_bool
         have both : ∀ k1 : K, Kon P base M W nt Q1 k1 (Exit.then (WPl P ys Q) Q) -> Sat P Q1 (.ite b (run T std S lo sc noL p (s.know t true) k1) (run T std S lo sc noL q (s.know t false) k1)) -> (Code.cond (.tmp t) p q).wp P (Exit.then (WPl P ys Q) Q) a w := by
           intro k1 hk1 h
           cases h with
           | ite h1 h2 =>
             refine wp_cond_split he (fun ht => ?_) (fun hf => ?_)
             · subst ht
               exact yes k1 (s.know t true) ⟨hs.1, zef hs.2 hb⟩ (h1 rfl) hk1
             · subst hf
               exact no k1 (s.know t false) ⟨hs.1, zef hs.2 hb⟩ (h2 rfl) hk1
         split at h
         · exact both k hk h
         · rename_i an _
           split at h
           · rename_i ks _
             split at h
             · rename_i ko _
               cases h with
               | and h1 h2 =>
                 refine both _ (fun e s' a' w' hs' h' => ?_) h1
                 cases e with
                 | normal =>
                   obtain ⟨y, hy, _, hsy⟩ := zf8 hs' h'
                   cases h2 with
                   | all h2 => cases h2 y with
                     | sup h3 => exact hk .normal _ a' w' hsy (h3 hy)
                 | exit j => exact hk (.exit j) s' a' w' hs' h'
                 | goto l => exact hk (.goto l) s' a' w' hs' h'
                 | ret => exact hk .ret s' a' w' hs' h'
             · cases h
           · cases h
       · cases h
     · cases h
 | block id b ih =>
   refine ⟨?_, fun body e => by cases e⟩
   intro hc A s k Q ys a w hs h hk _
   show (Code.block id b).wp P (Exit.then (WPl P ys Q) Q) a w
   generalize Exit.then (WPl P ys Q) Q = Q' at hk
   by_cases hb : ∃ body, b = .loop body
   · obtain ⟨body, rfl⟩ := hb
     have hbody := ih.2 body rfl hc
     unfold run at h
     split at h
     · rename_i an hlo
       split at h
       · rename_i ks hks
         split at h
         · rename_i ko hko
           cases h with
           | and h1 h2 =>
             obtain ⟨x0, i0, _, s0⟩ := zf8 hs h1
             cases h2 with
             | all h2 =>
               refine wp_block (wp_loop_ghost (fun n a w => ∃ x, an.inv x /\ an.mu x = n /\ zmp base M W nt (an.st ks ko s.ice x) a w) (an.mu x0) ⟨x0, i0, rfl, s0⟩ ?_)
               rintro n a1 w1 ⟨x, hx, rfl, hsx⟩
               refine ze5 ?_
               cases h2 x with
               | sup h3 =>
                 have := hbody noL _ _ (Exit.then (fun a' w' => ∃ n', n' < an.mu x /\ ∃ x, an.inv x /\ an.mu x = n' /\ zmp base M W nt (an.st ks ko s.ice x) a' w') (Exit.inBlock id Q')) [] a1 w1 hsx (h3 hx) (fun e s' a' w' hs' h' => ?_) (fun l c' s' a' w' hA => by cases hA)
                 · simpa using this
                 · rw [zfj]
                   cases e with
                   | exit j =>
                     simp only at h'
                     show (if j = id then Q' .normal a' w' else Q' (.exit j) a' w')
                     cases e : zat j id with
                     | true => rw [e] at h'; rw [if_pos (za4 e)]; exact hk .normal s' a' w' hs' h'
                     | false =>
                       rw [e] at h'
                       rw [if_neg (by rintro rfl; rw [za6] at e; cases e)]
                       exact hk (.exit j) s' a' w' hs' h'
                   | normal =>
                     obtain ⟨x', i', m', s2⟩ := zf8 hs' h'
                     exact ⟨an.mu x', m' _ rfl, x', i', rfl, s2⟩
                   | goto l => exact hk (.goto l) s' a' w' hs' h'
                   | ret => exact hk .ret s' a' w' hs' h'
         · cases h
       · cases h
     · cases h
   · rw [ycj (fun body e => hb ⟨body, e⟩)] at h
     refine wp_block (ze5 ?_)
     have := ih.1 hc noL s _ (Exit.inBlock id Q') [] a w hs h (fun e s' a' w' hs' h' => ?_) (fun l c' s' a' w' hA => by cases hA)
     · simpa using this
     · rw [zfj]
       cases e with
       | exit j =>
         simp only at h'
         show (if j = id then Q' .normal a' w' else Q' (.exit j) a' w')
         cases e : zat j id with
         | true => rw [e] at h'; rw [if_pos (za4 e)]; exact hk .normal s' a' w' hs' h'
         | false =>
           rw [e] at h'
           rw [if_neg (by rintro rfl; rw [za6] at e; cases e)]
           exact hk (.exit j) s' a' w' hs' h'
       | normal => exact hk .normal s' a' w' hs' h'
       | goto l => exact hk (.goto l) s' a' w' hs' h'
       | ret => exact hk .ret s' a' w' hs' h'
 | exit id => refine ⟨?_, fun body e => by cases e⟩; intro _ A s k Q ys a w hs h hk _; exact wp_exit (hk (.exit id) s a w hs h)
 | goto l => refine ⟨?_, fun body e => by cases e⟩; intro _ A s k Q ys a w hs h hk _; exact wp_goto (hk (.goto l) s a w hs h)
 | ret => refine ⟨?_, fun body e => by cases e⟩; intro _ A s k Q ys a w hs h hk _; exact wp_ret (hk .ret s a w hs h)
 | label l =>
   refine ⟨?_, fun body e => by cases e⟩
   intro _ A s k Q ys a w hs h hk hl
   unfold run at h
   split at h
   · rename_i hA
     exact hl l .skip s a w hA (by simp [findLabel]) hs h
   · exact hk .normal s a w hs h
 | scope b ih =>
   refine ⟨?_, fun body e => by cases e⟩
   intro hc A s k Q ys a w hs h hk _
   exact hsc b s k _ a w hc hs h hk
 | loop b ih => exact ⟨fun _ A s k Q ys a w hs h hk _ => (by cases h), fun body e => by cases e; exact ih.1⟩
 | _ => refine ⟨?_, fun body e => by cases e⟩; intro _ A s k Q ys a w hs h hk _; cases h
theorem ylq (hT : zbw P T) (hS : zdr P S) (hm : P.follows .mixedOrders = true) {sc : Code -> St -> K -> zc6} (hsc : ScOk P base M W nt Q1 sc) (c : Code) : yrj P T S lo base M W nt Q1 sc c := (ynw hT hS hm hsc c).1
def LabOk (P : Program) (base : Nat) (M : Two) (W : World) (nt : Nat) (lb : Nat -> St -> Option Ann) (body : Code) (bs : St) (Q : Exit -> Act -> World -> Prop) (m : Option Nat) : Prop :=
 ∀ l an rest ks ko x a w, lb l bs = some an -> findLabel body l = some rest -> zn0 bs.slots an.keep = some ks -> zpi bs.objs an.hold = some ko -> an.inv x -> (∀ m0, m = some m0 -> an.mu x < m0) ->
   zmp base M W nt (an.st ks ko bs.ice x) a w -> WPl P (zgp rest) (Qg P Q body) a w
def ymw (P : Program) (T : TT) (S : zqc) (lo lb : Nat -> St -> Option Ann) (base : Nat) (M : Two) (W : World) (nt : Nat) (Q1 : AV -> Prop) (n : Nat) : Prop :=
 ∀ body rest bs s k m Q a w, zk7 (zdg body) = true -> zc3 nt rest = true -> zc3 nt body = true -> (rest = body \/ ∃ l, findLabel body l = some rest) -> zmp base M W nt s a w -> Sat P Q1 (pass T std S lo lb n body rest s k m bs) ->
   Kon P base M W nt Q1 k Q -> LabOk P base M W nt lb body bs Q m -> WPl P (zgp rest) (Qg P Q body) a w
theorem zpx {body : Code} {bs : St} {ps : Code -> St -> Nat -> zc6} {t : zc6} : ∀ {ls : List Nat}, Sat P Q1 (zfc lb body bs ps ls t) -> Sat P Q1 t /\
   ∀ l, l ∈ ls -> ∀ an rest ks ko, lb l bs = some an -> findLabel body l = some rest -> zn0 bs.slots an.keep = some ks -> zpi bs.objs an.hold = some ko -> ∀ x, an.inv x -> Sat P Q1 (ps rest (an.st ks ko bs.ice x) (an.mu x))
 | [], h => ⟨h, fun l hl => by cases hl⟩
 | l0 :: ls, h => by
   unfold zfc at h
   split at h
   · rename_i an hlb
     split at h
     · rename_i rest hf
       split at h
       · rename_i ks hks
         split at h
         · rename_i ko hko
           cases h with
           | and h1 h2 =>
             obtain ⟨i1, i2⟩ := zpx h2
             refine ⟨i1, fun l hl an' rest' ks' ko' q1 q2 q3 q4 x hx => ?_⟩
             rcases List.mem_cons.1 hl with rfl | hl
             · rw [hlb] at q1; cases q1
               rw [hf] at q2; cases q2
               rw [hks] at q3; cases q3
               rw [hko] at q4; cases q4
               cases h1 with
               | all h1 => cases h1 x with | sup h1 => exact h1 hx
             · exact i2 l hl an' rest' ks' ko' q1 q2 q3 q4 x hx
         · cases h
       · cases h
     · rename_i hf
       obtain ⟨i1, i2⟩ := zpx h
       refine ⟨i1, fun l hl an' rest' ks' ko' q1 q2 => ?_⟩
       rcases List.mem_cons.1 hl with rfl | hl
       · rw [hf] at q2; cases q2
       · exact i2 l hl an' rest' ks' ko' q1 q2
   · rename_i hlb
     obtain ⟨i1, i2⟩ := zpx h
     refine ⟨i1, fun l hl an' rest' ks' ko' q1 => ?_⟩
     rcases List.mem_cons.1 hl with rfl | hl
     · rw [hlb] at q1; cases q1
     · exact i2 l hl an' rest' ks' ko' q1
theorem zv9 (n : Nat) (hp : ymw P T S lo lb base M W nt Q1 n) : ScOk P base M W nt Q1 (znb lb (pass T std S lo lb n)) := by
 intro body s k Q a w hc hs h hk
 unfold zc3 at hc
 rw [Bool.and_eq_true] at hc
 unfold znb at h
 obtain ⟨h1, h2⟩ := zpx h
 have lab : ∀ m, ∀ l an rest ks ko x a w, lb l s = some an -> findLabel body l = some rest -> zn0 s.slots an.keep = some ks -> zpi s.objs an.hold = some ko -> an.inv x -> an.mu x = m ->
     zmp base M W nt (an.st ks ko s.ice x) a w -> WPl P (zgp rest) (Qg P Q body) a w := by
   intro m
   induction m using Nat.strongRecOn with
   | _ m ih =>
     intro l an rest ks ko x a w q1 q2 q3 q4 hx hm hsx
     subst hm
     refine hp body rest s _ k (some (an.mu x)) Q a w hc.1 (yf7 q2 hc.2) hc.2 (.inr ⟨l, q2⟩) hsx (h2 l (zps q2) an rest ks ko q1 q2 q3 q4 x hx) hk ?_
     intro l' an' rest' ks' ko' x' a' w' p1 p2 p3 p4 hx' hlt hs'
     exact ih (an'.mu x') (hlt _ rfl) l' an' rest' ks' ko' x' a' w' p1 p2 p3 p4 hx' rfl hs'
 have := hp body body s s k none Q a w hc.1 hc.2 hc.2 (.inl rfl) hs h1 hk (fun l an rest ks ko x a w q1 q2 q3 q4 hx _ hsx => lab _ l an rest ks ko x a w q1 q2 q3 q4 hx rfl hsx)
 exact zol (yex (ze5 this))
theorem yda (hT : zbw P T) (hS : zdr P S) (hm : P.follows .mixedOrders = true) : ∀ n, ymw P T S lo lb base M W nt Q1 n
 | 0 => by intro body rest bs s k m Q a w _ _ _ _ _ h; cases h
 | n + 1 => by
   intro body rest bs s k m Q a w hn hr hb hsuf hs h hk hl
   have ih := yda hT hS hm n
   unfold pass at h
   have go : ∀ l rest' s' a' w', findLabel body l = some rest' -> zmp base M W nt s' a' w' -> Sat P Q1 (jump lb (fun rest' s' => pass T std S lo lb n body rest' s' k m bs) body bs m k (.goto l) s') -> WPl P (zgp rest') (Qg P Q body) a' w' := by
     intro l rest' s' a' w' hf hs' h'
     simp only [jump, hf] at h'
     split at h'
     · rename_i an hlb
       split at h'
       · rename_i ks hks
         split at h'
         · rename_i ko hko
           obtain ⟨x, i1, i2, i3⟩ := zf8 hs' h'
           exact hl l an rest' ks ko x a' w' hlb hf hks hko i1 i2 i3
         · cases h'
       · cases h'
     · exact ih body rest' bs s' k m Q a' w' hn (yf7 hf hb) hb (.inr ⟨l, hf⟩) hs' h' hk hl
   have := ylq hT hS hm (zv9 n ih) rest hr _ s _ (Qg P Q body) [] a w hs h (fun e s' a' w' hs' h' => ?_) (fun l c' s' a' w' hA hf hs' h' => ?_)
   · simpa using this
   · rw [zfj]
     cases e with
     | goto l =>
       show Qg P Q body (.goto l) a' w'
       simp only [Qg]
       cases hf : findLabel body l with
       | some rest' => exact yex (ze5 (go l rest' s' a' w' hf hs' h'))
       | none =>
         simp only [jump, hf] at h'
         exact hk (.goto l) s' a' w' hs' h'
     | normal => exact hk .normal s' a' w' hs' h'
     | exit id => exact hk (.exit id) s' a' w' hs' h'
     | ret => exact hk .ret s' a' w' hs' h'
   · rw [List.append_nil]
     rcases hsuf with rfl | ⟨l0, h0⟩
     · exact go l c' s' a' w' hf hs' h'
     · obtain ⟨c'', e1, e2⟩ := yf8 hn h0 hf
       rw [<- e2]
       exact go l c'' s' a' w' e1 hs' h'
theorem yfu (hT : zbw P T) (hS : zdr P S) (hm : P.follows .mixedOrders = true) {n : Nat} {c : Code} (hc : zc3 nt c = true) {s : St} {k : K} {Q : Exit -> Act -> World -> Prop} {a : Act} {w : World} (hs : zmp base M W nt s a w)
   (h : Sat P Q1 (run T std S lo (znb lb (pass T std S lo lb n)) noL c s k)) (hk : Kon P base M W nt Q1 k Q) : c.wp P Q a w := by
 refine ze5 ?_
 have := ylq hT hS hm (zv9 n (yda hT hS hm n)) c hc noL s k Q [] a w hs h (by rw [zfj]; exact hk) (fun l c' s' a' w' hA => by cases hA)
 simpa using this
end
end Sy
end Go.Proofs.YtogpolfhcbgcbaaGreatDoor
namespace Go.Proofs.YtogpolfhcbgcbaaGreatDoor
namespace Sy
open Go Go.RowKit
set_option linter.unusedSimpArgs false
set_option linter.unusedVariables false
set_option linter.unusedSectionVars false
def zn7 : List Prop -> Prop
 | [] => True
 | p :: r => p /\ zn7 r
def fits1 (r v : AV) : Prop := match zg6 ⟨[], []⟩ r v with
 | some ⟨ps, []⟩ => zn7 ps
 | _ => False
def zu9 : List AV -> List AV -> Prop
 | [], [] => True
 | x :: xs, y :: ys => fits1 x y /\ zu9 xs ys
 | _, _ => False
def zg4 (r v : AV) : Prop := match r, v with
 | .tup rs, .tup vs => zu9 rs vs
 | r, v => fits1 r v
theorem zxj : ∀ {l : List Prop}, zn7 l -> ∀ p, p ∈ l -> p
 | [], _, p, h => by cases h
 | q :: l, ⟨h1, h2⟩, p, h => by
   rcases List.mem_cons.1 h with rfl | h
   · exact h1
   · exact zxj h2 p h
theorem yop (μ : Mu) : zev μ [] = zav := rfl
theorem yf5 {h : Array Obj} {D : Nat -> Prop} {r v : AV} {x : Value} (f : fits1 r v) (hr : R h D zav v x) : R h D zav r x := by
 unfold fits1 at f
 split at f
 · rename_i ps e
   have := (zw9 (h := h) (D := D) (μ := zav) e).2 [] x ⟨fun _ _ h => h, zxj f⟩ hr
   rwa [yop] at this
 · exact f.elim
theorem yf2 {h : Array Obj} {D : Nat -> Prop} : ∀ {rs vs : List AV}, zu9 rs vs -> rs.length = vs.length /\ ∀ (i : Nat) r v x, rs[i]? = some r -> vs[i]? = some v -> R h D zav v x -> R h D zav r x
 | [], [], _ => ⟨rfl, fun i r v x h => by simp at h⟩
 | r :: rs, v :: vs, ⟨f1, f2⟩ => by
   obtain ⟨l1, h1⟩ := yf2 (h := h) (D := D) f2
   refine ⟨by simp [l1], fun i r' v' x hr hv hx => ?_⟩
   cases i with
   | zero => simp at hr hv; subst hr; subst hv; exact yf5 f1 hx
   | succ i => exact h1 i r' v' x (by simpa using hr) (by simpa using hv) hx
 | [], _ :: _, f => f.elim
 | _ :: _, [], f => f.elim
theorem ymd {h : Array Obj} {D : Nat -> Prop} {r v : AV} {x : Value} (f : zg4 r v) (hr : R h D zav v x) : R h D zav r x := by
 unfold zg4 at f
 split at f
 · rename_i rs vs
   obtain ⟨us, rfl, l1, h1⟩ := hr.inv_tup
   obtain ⟨l2, h2⟩ := yf2 (h := h) (D := D) f
   refine .tup _ _ (by rw [l2, l1]) fun i r x hr hx => ?_
   obtain ⟨v, hv⟩ : ∃ v, vs[i]? = some v := ⟨_, List.getElem?_eq_getElem (by rw [<- l2]; exact (List.getElem?_eq_some_iff.1 hr).1)⟩
   exact h2 i r v x hr hv (h1 i v x hv hx)
 · exact yf5 f hr
theorem ya1 {α : Type} (x : Sem α) : x.bind .pure = x := by
 induction x <;> simp only [Sem.bind] <;> (try (congr 1; try funext _)) <;> (first | rfl | (rename_i ih; exact ih _) | (rename_i ih; exact ih) | (rename_i ih _; exact ih _))
theorem zuw {α β γ : Type} (x : Sem α) (f : α -> Sem β) (g : β -> Sem γ) : (x.bind f).bind g = x.bind fun a => (f a).bind g := by
 induction x <;> simp only [Sem.bind] <;> (try (congr 1; try funext _)) <;> (first | rfl | (rename_i ih; exact ih _) | (rename_i ih; exact ih) | (rename_i ih _; exact ih _))
instance : LawfulMonad Sem := LawfulMonad.mk' Sem (fun x => ya1 x) (fun _ _ => rfl) (fun x f g => zuw x f g)
theorem zwc {α : Type} {P : Program} {w : World} {k : α -> Sem Value} : ∀ {zs : List α} {us : Nat -> Value}, (∀ (i : Nat) x, zs[i]? = some x -> (k x).run P w = .ok (us i) w) ->
   (zs.mapM k).run P w = .ok ((List.range zs.length).map us) w
 | [], us, h => by simp
 | z :: zs, us, h => by
   have ih := zwc (zs := zs) (us := fun i => us (i + 1)) (fun i x hx => h (i + 1) x (by simpa using hx))
   rw [List.mapM_cons, Sem.run_bind, h 0 z rfl]
   simp only [Result.andThen_ok, Sem.run_bind, ih, Sem.run_pure]
   rw [List.length_cons, List.range_succ_eq_map]
   simp [Function.comp_def]
section
variable {P : Program} {T : TT} {base : Nat} {M : Two} {W : World} {nt : Nat} {s : St} {a : Act} {w : World} {D : Nat -> Prop} {μ : Mu}
def zyk (tmps : Array Value) : ResultVar -> Sem Value
 | .tmp t => pure (tmps.getD t undef)
 | .cell a t => do loadVar t (<- asAddr (tmps.getD a undef))
theorem ysz (h : Sim base M W nt (za3 s.slots) (za3 s.objs) (zbu s.ice) a w D μ) (hT : zbw P T) {x : ResultVar} {v : AV} (e : yvy T s x = some v) : ∃ u, (zyk a.tmps x).run P w = .ok u w /\ R w.heap D μ v u := by
 have ev : ∀ t, R w.heap D μ (evf (za3 s.slots) [] (.tmp t)) (a.tmps.getD t undef) := fun t => yqa h (fun t b ht => by simp [za3] at ht) (.tmp t) (fun v hv => by cases hv)
 cases x with
 | tmp t =>
   simp only [yvy, Option.some.injEq] at e
   subst e
   exact ⟨_, rfl, ev t⟩
 | cell p t =>
   simp only [yvy] at e
   have hl := zwd h hT (t := t) (ev p) (ob := za3 s.objs) (fun _ _ h => h)
   split at e
   · rename_i v' os ice hc
     rw [hc] at hl
     cases e
     obtain ⟨_, _, y, hy, r⟩ := hl
     refine ⟨y, ?_, r⟩
     simp only [zyk]
     generalize a.tmps.getD p undef = u at *
     unfold Instr.loadAt Instr.sureAddr at hy
     unfold asAddr
     split at hy
     · rename_i q; simpa using hy
     · simp [stuck] at hy
   · cases e
theorem zt2 (h : Sim base M W nt (za3 s.slots) (za3 s.objs) (zbu s.ice) a w D μ) (hT : zbw P T) : ∀ {rs : List ResultVar} {vs : List AV}, ycp T s rs = some vs ->
   vs.length = rs.length /\ ∃ us : Nat -> Value, (∀ (i : Nat) x, rs[i]? = some x -> (zyk a.tmps x).run P w = .ok (us i) w) /\ ∀ (i : Nat) v, vs[i]? = some v -> R w.heap D μ v (us i)
 | [], vs, e => by cases e; exact ⟨rfl, fun _ => undef, fun i x hx => by simp at hx, fun i x hx => by simp at hx⟩
 | x :: rs, vs, e => by
   unfold ycp at e
   split at e
   · rename_i v hv
     split at e
     · rename_i l hl
       cases e
       obtain ⟨u, hu, r⟩ := ysz h hT hv
       obtain ⟨l1, us, h1, h2⟩ := zt2 h hT hl
       refine ⟨by simp [l1], fun i => match i with | 0 => u | i + 1 => us i, fun i x' hx => ?_, fun i v' hv' => ?_⟩
       · cases i with
         | zero => simp at hx; subst hx; exact hu
         | succ i => exact h1 i x' (by simpa using hx)
       · cases i with
         | zero => simp at hv'; subst hv'; exact r
         | succ i => exact h2 i v' (by simpa using hv')
     · cases e
   · cases e
theorem zlf {fn : Func} {tmps : Array Value} {us : Nat -> Value} (h : ∀ (i : Nat) x, fn.results.toList[i]? = some x -> (zyk tmps x).run P w = .ok (us i) w) :
   (results fn tmps).run P w = .ok (if fn.results.size = 1 then us 0 else .tuple ((List.range fn.results.size).map us).toArray) w := by
 have h1 : (fn.results.mapM (zyk tmps)).run P w = .ok ((List.range fn.results.size).map us).toArray w := by
   have e : fn.results = fn.results.toList.toArray := by simp
   rw [e, List.mapM_toArray, map_eq_pure_bind, Sem.run_bind, zwc h]
   simp
 have h2 : results fn tmps = (do
     let vs <- fn.results.mapM (zyk tmps)
     pure (if h : vs.size = 1 then vs[0] else .tuple vs)) := by
   unfold results
   congr 1
 rw [h2, Sem.run_bind, h1]
 simp only [Result.andThen_ok, Sem.run_pure]
 congr 1
 by_cases e : fn.results.size = 1
 · rw [if_pos e, dif_pos (by simp [e])]
   try simp
 · rw [if_neg e, dif_neg (by simp [e])]
end
theorem zmo {α : Type} : ∀ (xs : List α) (i t : Nat), za3 (number i xs) t = if i <= t then xs[t - i]? else none
 | [], i, t => by simp [number, za3]
 | x :: xs, i, t => by
   unfold number za3
   cases e : zat i t with
   | true => have := za4 e; subst this; simp
   | false =>
     have hne : i ≠ t := by rintro rfl; rw [za6] at e; cases e
     simp only
     rw [zmo xs (i + 1) t]
     by_cases h : i <= t
     · rw [if_pos (by omega), if_pos h]
       obtain ⟨k, hk⟩ : ∃ k, t - i = k + 1 := ⟨t - i - 1, by omega⟩
       rw [hk, show t - (i + 1) = k by omega]
       simp
     · rw [if_neg (by omega), if_neg h]
theorem zcv {P : Program} {f : FuncId} {fn : Func} {args : Array Value} {w : World} (hf : P.funcs[f]? = some fn) (hn : (fn.name == "runtime.NumGoroutine") = false) {c : Code} (hb : fn.body = some c) :
   (callFunc f args).run P w = .ok (.enter f args) w := by
 have hn' : ¬ fn.name = "runtime.NumGoroutine" := by simpa using hn
 unfold callFunc
 simp [program, Sem.run, hf, hn', hb]
theorem zsf {P : Program} {T : TT} {S : zqc} {lo lb : Nat -> St -> Option Ann} {n : Nat} {f : FuncId} {fn : Func} {c : Code} {xs : List AV} {r : AV} (hf : P.funcs[f]? = some fn) (hb : fn.body = some c) (hn : (fn.name == "runtime.NumGoroutine") = false)
   (hc : zc3 fn.ntmps c = true) (hx : (zbx xs.length fn.ntmps && zbx fn.ntmps 500000) = true) (hT : zbw P T) (hS : zdr P S) (hm : P.follows .mixedOrders = true) (h : Sat P (zg4 r) (yvw T std S lo lb n fn xs)) : zad P f xs r := by
 intro D w vs hD hxs hg
 rw [Bool.and_eq_true] at hx
 have hnb := zbh hx.2
 have hx := zbh hx.1
 unfold zek
 rw [zcv hf hn hb]
 simp only
 refine calls_of_wp hf hb ?_
 unfold yvw at h
 rw [hb] at h
 refine yfu (base := w.heap.size) (M := ⟨fun _ => False, D, fun _ => none⟩) (W := w) hT hS hm hc ⟨⟨D, zav, ?_⟩, fun t b ht => by simp [za3] at ht⟩ h (fun e s a w' hs h' => ?_)
 · refine { os := rfl, tape := rfl, output := rfl, size := Nat.le_refl _, bs := Nat.le_refl _, old := fun _ _ _ => rfl, defers := rfl, tmps := ?_, slots := fun t v hv => ?_, dlt := hD, low := fun b hb _ => .inl hb, dom := fun id => by simp [za3], obs := fun id o x ho => (by simp [za3] at ho), inj := fun id id' b z z' o o' h => (by cases h), own := fun id b z h => (by cases h), kd := fun id b z o h => (by cases h), icy := fun id h => by (simp [zbu] at h), ntb := hnb, pin := fun id y _ h => (by cases h), gl := ⟨hg, zxp hg, fun _ h => h.elim⟩ }
   · rw [hxs.1] at hx
     simp; omega
   · rw [zmo, if_pos (by omega), Nat.sub_zero] at hv
     have hlt : t < vs.size := by rw [<- hxs.1]; exact (List.getElem?_eq_some_iff.1 hv).1
     have h1 : vs[t]? = some vs[t] := by simp [hlt]
     have h2 : (vs ++ Array.replicate (fn.ntmps - vs.size) undef).getD t undef = vs[t] := by
       rw [Array.getD_eq_getD_getElem?, Array.getElem?_append_left hlt, h1]; rfl
     rw [h2]
     exact hxs.2 t v vs[t] hv h1
 · obtain ⟨⟨D1, μ, S1⟩, _⟩ := hs
   have key : Sat P (zg4 r) (ywa T std fn.results.toList s) -> a.defers = [] /\ ∃ v, (results fn a.tmps).run P w' = .ok v w' /\ ∃ v' D', Ending.returned v = .returned v' /\ Below w.heap.size w w' /\ (∀ b, D b -> D' b) /\ (∀ b, D' b -> D b \/ (w.heap.size <= b /\ b < w'.heap.size)) /\ R w'.heap D' zav r v' := by
     intro h'
     unfold ywa at h'
     split at h'
     · rename_i vs1 hvs
       obtain ⟨l1, us, h1, h2⟩ := zt2 S1 hT hvs
       have hres := zlf (P := P) (w := w') (fn := fn) (tmps := a.tmps) h1
       have hB : Below w.heap.size w w' := ⟨S1.os, S1.tape, S1.output, S1.size, fun b hb => S1.old b hb (fun h => h)⟩
       have hD' : ∀ b, (D b \/ DF D1 μ (zdl vs1) b) -> D b \/ (w.heap.size <= b /\ b < w'.heap.size) := by
         rintro b (hb | hb | ⟨id, z, m, _, hm⟩)
         · exact .inl hb
         · by_cases hlt : b < w.heap.size
           · rcases S1.low b hb hlt with h | h
             · exact .inl h
             · exact h.elim
           · exact .inr ⟨by omega, S1.dlt b hb⟩
         · rcases S1.own id b _ hm with ⟨q1, q2 | q2⟩
           · exact .inr ⟨q2, q1⟩
           · exact q2.elim
       have imm : ∀ vs2, immVs std (za3 s.objs) vs1 = some vs2 -> vs2.length = vs1.length /\ ∀ (i : Nat) v, vs2[i]? = some v -> R w'.heap (fun b => D b \/ DF D1 μ (zdl vs1) b) zav v (us i) := by
         intro vs2 e2
         obtain ⟨i1, _, i3⟩ := zkn S1 (ob := za3 s.objs) (fun _ _ h => h) e2 (ids := zdl vs1) (fun _ h => h)
         refine ⟨i1, fun i v hv => ?_⟩
         obtain ⟨v1, hv1⟩ : ∃ v1, vs1[i]? = some v1 := ⟨_, List.getElem?_eq_getElem (by rw [<- i1]; exact (List.getElem?_eq_some_iff.1 hv).1)⟩
         exact (i3 i v1 v (us i) hv1 hv (h2 i v1 hv1)).mono (fun _ _ => rfl) (fun b hb => .inr hb) (fun _ _ h => by cases h)
       refine ⟨S1.defers, _, hres, _, fun b => D b \/ DF D1 μ (zdl vs1) b, rfl, hB, fun b hb => .inl hb, hD', ?_⟩
       split at h'
       · rename_i v1 e2
         cases h' with
         | done h' =>
           obtain ⟨i1, i2⟩ := imm _ e2
           have hsz : fn.results.size = 1 := by rw [<- Array.length_toList, <- l1, <- i1]; rfl
           rw [if_pos hsz]
           exact ymd h' (i2 0 v1 rfl)
       · rename_i vs2 hne e2
         cases h' with
         | done h' =>
           obtain ⟨i1, i2⟩ := imm _ e2
           have hl : vs2.length = fn.results.size := by rw [i1, l1, Array.length_toList]
           have hsz : ¬ fn.results.size = 1 := by
             rw [<- hl]
             intro h1
             obtain ⟨v, hv⟩ := List.length_eq_one_iff.1 h1
             exact hne v hv
           rw [if_neg hsz]
           refine ymd h' (.tup _ _ (by simp [hl]) fun i v x hv hx => ?_)
           have hlt : i < fn.results.size := by rw [<- hl]; exact (List.getElem?_eq_some_iff.1 hv).1
           simp [hlt] at hx
           subst hx
           exact i2 i v hv
       · cases h'
     · cases h'
   cases e with
   | normal => exact key h'
   | ret => exact key h'
   | exit id => cases h'
   | goto l => cases h'
end Sy
end Go.Proofs.YtogpolfhcbgcbaaGreatDoor
namespace Go.Proofs.YtogpolfhcbgcbaaGreatDoor
namespace Sy
open Go Go.RowKit
section
variable (a b c : Int) (l m : List UInt8) (n : Nat)
theorem zcp : (ilt a b = true) = (a < b) := by simp [ilt]
theorem zeh : (ilt a b = false) = (b <= a) := by simp [ilt]
theorem yem : (ile a b = true) = (a <= b) := by simp [ile]
theorem yjx : (ile a b = false) = (b < a) := by simp [ile]
theorem zn2 : (ieq a b = true) = (a = b) := by simp [ieq]
theorem zzf : (ieq a b = false) = (a ≠ b) := by simp [ieq]
theorem yju : (ine a b = true) = (a ≠ b) := by simp [ine]
theorem yjv : (ine a b = false) = (a = b) := by simp [ine]
theorem ybr : (seq l m = true) = (l = m) := by simp [seq]
theorem ybs : (seq l m = false) = (l ≠ m) := by simp [seq]
theorem zn1 : (inR a b = true) = (0 <= a /\ a < b) := by simp [inR]
theorem yxw : (inS a b c = true) = (0 <= a /\ a <= b /\ b <= c) := by simp [inS, and_assoc]
theorem yjw : (inC a b = true) = (0 <= a /\ a <= b) := by simp [inC]
theorem yto (eb : Nat) : (yw4 eb a b = true) = (0 <= a /\ a <= b /\ (eb : Int) * b <= 140737488355328 /\ b <= 9223372036854775807) := by simp [yw4, and_assoc]
theorem zdt (eb p q : Nat) : (zc0 eb p q = true) = ((p + q) * eb <= 140737488355328 /\ p + q <= 9223372036854775807) := by simp [zc0]
theorem yqt : (yqu l m = true) = (l.length + m.length <= 9223372036854775807) := by simp [yqu]
theorem zah (x y : Bool) : zg4 (.bool x) (.bool y) = (y = x) := by simp [zg4, fits1, zg6, zdj, zcr.add, zn7]
theorem zer (k : IntKind) : zg4 (.int k a) (.int k b) = (b = a) := by simp [zg4, fits1, zg6, zdj, zcr.add, zn7]
theorem zpq : zg4 (.str l) (.str m) = (m = l) := by simp [zg4, fits1, zg6, zdj, zcr.add, zn7]
theorem zit (k : FloatKind) (a b : Nat) : zg4 (.flt k a) (.flt k b) = (b = a) := by simp [zg4, fits1, zg6, zdj, zcr.add, zn7]
theorem yf4 (k : FloatKind) (a b : Nat) : fits1 (.flt k a) (.flt k b) = (b = a) := by simp [fits1, zg6, zdj, zcr.add, zn7]
theorem zh6 (k : FloatKind) (a b c d : Nat) : zg4 (.cpx k a b) (.cpx k c d) = (d = b /\ c = a) := by simp [zg4, fits1, zg6, zdj, zcr.add, zn7]
theorem zrt (k : FloatKind) (a b c d : Nat) : fits1 (.cpx k a b) (.cpx k c d) = (d = b /\ c = a) := by simp [fits1, zg6, zdj, zcr.add, zn7]
theorem zo1 (x y : Bool) : fits1 (.bool x) (.bool y) = (y = x) := by simp [fits1, zg6, zdj, zcr.add, zn7]
theorem zgr (k : IntKind) : fits1 (.int k a) (.int k b) = (b = a) := by simp [fits1, zg6, zdj, zcr.add, zn7]
theorem yf3 : fits1 (.str l) (.str m) = (m = l) := by simp [fits1, zg6, zdj, zcr.add, zn7]
theorem zko (x y : List AV) : zg4 (.tup x) (.tup y) = zu9 x y := rfl
theorem zde (x y : AV) (r q : List AV) : zu9 (x :: r) (y :: q) = (fits1 x y /\ zu9 r q) := rfl
theorem ziu : zu9 [] [] = True := rfl
theorem zgb : slen l = l.length := rfl
theorem ynp : ywv l m = l ++ m := rfl
theorem ync : ywp l a b = (l.take b.toNat).drop a.toNat := rfl
theorem ynl : zhh l a = (l.getD a.toNat 0).toNat := rfl
theorem yoy : lenN l = l.length := rfl
theorem ykh (p q r : Nat) : yuh p q r = (p + q <= r) := rfl
theorem zmx (p : Nat) : Nat.add 0 p = p := Nat.zero_add p
theorem yek : yxx a b = min a b := rfl
theorem yel : yu3 a b = max a b := rfl
theorem za1 : za7 n = n := rfl
end
theorem zha (n : Int) : IntKind.i64.wrap n = (n + 9223372036854775808) % 18446744073709551616 - 9223372036854775808 := by simp [IntKind.wrap, IntKind.bits, IntKind.signed]; omega
theorem ywl (n : Int) : IntKind.i32.wrap n = (n + 2147483648) % 4294967296 - 2147483648 := by simp [IntKind.wrap, IntKind.bits, IntKind.signed]; omega
theorem ysd (n : Int) : IntKind.u64.wrap n = n % 18446744073709551616 := by simp [IntKind.wrap, IntKind.bits, IntKind.signed]
theorem ywj (n : Int) : IntKind.u32.wrap n = n % 4294967296 := by simp [IntKind.wrap, IntKind.bits, IntKind.signed]
theorem ywk (n : Int) : IntKind.u16.wrap n = n % 65536 := by simp [IntKind.wrap, IntKind.bits, IntKind.signed]
theorem w_u8 (n : Int) : IntKind.u8.wrap n = n % 256 := by simp [IntKind.wrap, IntKind.bits, IntKind.signed]
theorem zr2 (ps q : List Prop) (ids : List (Nat × Option Nat)) (x y : Nat) : zge ⟨ps ++ q, ids⟩ x y = (zge ⟨ps, ids⟩ x y).map fun m => ⟨m.ps ++ q, m.ids⟩ := by
 unfold zge
 dsimp only
 repeat' split
 all_goals rfl
theorem znm (ps q : List Prop) (ids : List (Nat × Option Nat)) (x : Nat) : zhk ⟨ps ++ q, ids⟩ x = (zhk ⟨ps, ids⟩ x).map fun m => ⟨m.ps ++ q, m.ids⟩ := by
 unfold zhk
 dsimp only
 split <;> rfl
theorem yj5 (ps q : List Prop) (ids : List (Nat × Option Nat)) (x y : AV) : zdj ⟨ps ++ q, ids⟩ x y = (zdj ⟨ps, ids⟩ x y).map fun m => ⟨m.ps ++ q, m.ids⟩ := by
 cases x <;> cases y <;> first
   | rfl
   | (simp only [zdj, zcr.add, zr2, znm]; done)
   | (simp only [zdj, zcr.add, zr2, znm]
      (repeat' split) <;> (try simp_all) <;> (try (rename_i hh _; subst hh; simp)) <;> (try (rename_i hh _ _; subst hh; simp)))
theorem zw7 : ∀ (xs ys : List AV) (ps q : List Prop) (ids : List (Nat × Option Nat)), zim ⟨ps ++ q, ids⟩ xs ys = (zim ⟨ps, ids⟩ xs ys).map fun m => ⟨m.ps ++ q, m.ids⟩
 | [], [], ps, q, ids => rfl
 | [], _ :: _, ps, q, ids => rfl
 | _ :: _, [], ps, q, ids => rfl
 | x :: xs, y :: ys, ps, q, ids => by
   unfold zim
   rw [yj5]
   cases e : zdj ⟨ps, ids⟩ x y with
   | none => rfl
   | some m => exact zw7 xs ys m.ps q m.ids
theorem zxk : ∀ (p : List Prop) (q : Prop), zn7 (p ++ [q]) = (q /\ zn7 p)
 | [], q => by simp [zn7]
 | a :: p, q => by
   show (a /\ zn7 (p ++ [q])) = (q /\ a /\ zn7 p)
   rw [zxk p q]
   exact propext ⟨fun ⟨h1, h2, h3⟩ => ⟨h2, h1, h3⟩, fun ⟨h1, h2, h3⟩ => ⟨h2, h1, h3⟩⟩
theorem zci {x y : AV} {q : Prop} (e : zdj ⟨[], []⟩ x y = some ⟨[q], []⟩) (xs ys : List AV) : fits1 (.agg (x :: xs)) (.agg (y :: ys)) = (q /\ fits1 (.agg xs) (.agg ys)) := by
 unfold fits1 zg6
 simp only [zim, e]
 have := zw7 xs ys [] [q] []
 rw [List.nil_append] at this
 rw [this]
 cases zim ⟨[], []⟩ xs ys with
 | none => simp
 | some m =>
   obtain ⟨ps, ids⟩ := m
   cases ids with
   | nil => exact zxk ps q
   | cons a b => simp
theorem ze3 : fits1 (.agg []) (.agg []) = True := rfl
theorem zdf (k : IntKind) (a b : Int) (xs ys : List AV) : fits1 (.agg (.int k a :: xs)) (.agg (.int k b :: ys)) = (b = a /\ fits1 (.agg xs) (.agg ys)) := zci (by simp [zdj, zcr.add]) _ _
theorem ze2 (a b : List UInt8) (xs ys : List AV) : fits1 (.agg (.str a :: xs)) (.agg (.str b :: ys)) = (b = a /\ fits1 (.agg xs) (.agg ys)) := zci rfl _ _
theorem zo2 (a b : Bool) (xs ys : List AV) : fits1 (.agg (.bool a :: xs)) (.agg (.bool b :: ys)) = (b = a /\ fits1 (.agg xs) (.agg ys)) := zci rfl _ _
theorem zrs (sz n n' : Nat) (g g' : Nat -> Nat -> AV) : fits1 (.lst sz n g) (.lst sz n' g') = (n' = n /\ ∀ i j, i < n -> j < sz -> g' i j = g i j) := by simp [fits1, zg6, zdj, zcr.add, za6, zn7]
theorem zeq (sz n n' : Nat) (g g' : Nat -> Nat -> AV) : zg4 (.lst sz n g) (.lst sz n' g') = (n' = n /\ ∀ i j, i < n -> j < sz -> g' i j = g i j) := zrs sz n n' g g'
theorem zo0 (sz n : Nat) (g : Nat -> Nat -> AV) : fits1 (.lst sz n g) .nils = (0 = n) := by simp [fits1, zg6, zdj, zcr.add, zn7]
theorem yey (sz n : Nat) (g : Nat -> Nat -> AV) : zg4 (.lst sz n g) .nils = (0 = n) := zo0 sz n g
theorem zfa (sz n n' : Nat) (g g' : Nat -> Nat -> AV) (xs ys : List AV) : fits1 (.agg (.lst sz n g :: xs)) (.agg (.lst sz n' g' :: ys)) = ((n' = n /\ ∀ i j, i < n -> j < sz -> g' i j = g i j) /\ fits1 (.agg xs) (.agg ys)) := zci (by simp [zdj, zcr.add, za6]) _ _
theorem zjv (sz n : Nat) (g : Nat -> Nat -> AV) (xs ys : List AV) : fits1 (.agg (.lst sz n g :: xs)) (.agg (.nils :: ys)) = (0 = n /\ fits1 (.agg xs) (.agg ys)) := zci rfl _ _
theorem zru (n : Nat) (g g' : Nat -> AV) : fits1 (.arr n g) (.arr n g') = (∀ j, j < n -> g' j = g j) := by simp [fits1, zg6, zdj, zcr.add, za6, zn7]
theorem ykg (n : Nat) (g g' : Nat -> AV) : zg4 (.arr n g) (.arr n g') = (∀ j, j < n -> g' j = g j) := zru n g g'
theorem yf1 : zg4 (.agg []) (.agg []) = True := rfl
theorem zgq (k : IntKind) (a b : Int) (xs ys : List AV) : zg4 (.agg (.int k a :: xs)) (.agg (.int k b :: ys)) = (b = a /\ fits1 (.agg xs) (.agg ys)) := zdf _ _ _ _ _
theorem yez (a b : List UInt8) (xs ys : List AV) : zg4 (.agg (.str a :: xs)) (.agg (.str b :: ys)) = (b = a /\ fits1 (.agg xs) (.agg ys)) := ze2 _ _ _ _
theorem yf0 (a b : Bool) (xs ys : List AV) : zg4 (.agg (.bool a :: xs)) (.agg (.bool b :: ys)) = (b = a /\ fits1 (.agg xs) (.agg ys)) := zo2 _ _ _ _
theorem yba {h : Array Obj} {D : Nat -> Prop} {μ : Mu} {l : List UInt8} {v : Value} (r : R h D μ (.str l) v) : v = .string ⟨l.toArray⟩ := by
 obtain ⟨s, rfl, rfl⟩ := r.inv_str
 simp
theorem yhm (h : Array Obj) (D : Nat -> Prop) (μ : Mu) (l : List UInt8) : R h D μ (.str l) (.string ⟨l.toArray⟩) := .str l _ (by simp)
theorem zej {P : Program} {f : FuncId} {fn : Func} {c : Code} {xs : List AV} {args : Array Value} {v : Value} {r : AV} (hf : P.funcs[f]? = some fn) (hb : fn.body = some c) (hn : (fn.name == "runtime.NumGoroutine") = false)
   (ha : ∀ h D vs, RL h D zav xs vs -> vs = args) (hv : ∀ h D, R h D zav r v) (h : ∀ w, Calls P f args w fun e w' => e = .returned v /\ Below w.heap.size w w') : zad P f xs r := by
 intro D w vs hD hxs hg
 have := ha _ _ _ hxs
 subst this
 unfold zek
 rw [zcv hf hn hb]
 refine (h w).mono ?_
 rintro e w' ⟨rfl, hw⟩
 exact ⟨v, D, rfl, hw, fun _ h => h, fun b hb => .inl hb, hv _ _⟩
def zsg (x : AV) (v : Value) : Prop := ∀ h D u, R h D zav x u -> u = v
theorem ze7 (k : IntKind) (n : Int) : zsg (.int k n) (.int k n) := fun _ _ _ r => by cases r; rfl
theorem zcw (l : List UInt8) : zsg (.str l) (.string ⟨l.toArray⟩) := fun _ _ _ r => yba r
theorem args1 {x : AV} {v : Value} (hx : zsg x v) : ∀ h D vs, RL h D zav [x] vs -> vs = #[v] := by
 intro h D vs ⟨hl, hr⟩
 obtain ⟨a, ha⟩ : ∃ a, vs.toList = [a] := List.length_eq_one_iff.1 (by simpa using hl.symm)
 have : vs = #[a] := by rw [<- Array.toArray_toList (xs := vs), ha]
 subst this
 rw [hx _ _ a (hr 0 x a rfl rfl)]
theorem yab {x y : AV} {v u : Value} (hx : zsg x v) (hy : zsg y u) : ∀ h D vs, RL h D zav [x, y] vs -> vs = #[v, u] := by
 intro h D vs ⟨hl, hr⟩
 obtain ⟨a, b, ha⟩ : ∃ a b, vs.toList = [a, b] := by
   have hl : vs.toList.length = 2 := by simpa using hl.symm
   match vs.toList, hl with
   | [a, b], _ => exact ⟨a, b, rfl⟩
 have : vs = #[a, b] := by rw [<- Array.toArray_toList (xs := vs), ha]
 subst this
 rw [hx _ _ a (hr 0 x a rfl rfl), hy _ _ b (hr 1 y b rfl rfl)]
abbrev zbb := Nat × (List AV -> Option (Prop × AV))
abbrev zog := Nat × MSum
def yw9 (l : List zbb) : FuncId -> List AV -> Option (Prop × AV) := fun f xs => match za3 l f with | some g => g xs | none => none
def zam (l : List zbb) : zqc := ⟨yw9 l, fun _ => none⟩
def zca (l : List zbb) (lm : List zog) : zqc := ⟨yw9 l, za3 lm⟩
def zay (P : Program) (e : zbb) : Prop := ∀ xs p r, e.2 xs = some (p, r) -> p -> zad P e.1 xs r
def ylg (P : Program) : List zbb -> Prop
 | [] => True
 | e :: l => zay P e /\ ylg P l
def zg9 (P : Program) (e : zog) : Prop := ∀ raw ob T, e.2 raw ob = some T -> T.p -> zbj P e.1 T.xs T.O T.r T.O1
def ygz (P : Program) : List zog -> Prop
 | [] => True
 | e :: l => zg9 P e /\ ygz P l
theorem zu6 {P : Program} : ∀ {l : List zbb}, ylg P l -> ∀ f xs p r, yw9 l f xs = some (p, r) -> p -> zad P f xs r
 | [], _, f, xs, p, r, h => by cases h
 | (n, g) :: l, ⟨hg, hl⟩, f, xs, p, r, h => by
   unfold yw9 za3 at h
   by_cases e : n = f
   · subst e
     rw [za6] at h
     exact hg xs p r h
   · rw [zan e] at h
     exact zu6 hl f xs p r h
theorem ydr {P : Program} : ∀ {l : List zog}, ygz P l -> ∀ f m, za3 l f = some m -> ∀ raw ob T, m raw ob = some T -> T.p -> zbj P f T.xs T.O T.r T.O1
 | [], _, f, m, h => by cases h
 | (n, g) :: l, ⟨hg, hl⟩, f, m, h => by
   unfold za3 at h
   by_cases e : n = f
   · subst e
     rw [za6] at h
     cases h
     exact hg
   · rw [zan e] at h
     exact ydr hl f m h
theorem za2 {P : Program} {l : List zbb} (h : ylg P l) : zdr P (zam l) := ⟨zu6 h, fun f m h => by cases h⟩
theorem zaw {P : Program} {l : List zbb} {lm : List zog} (h : ylg P l) (hm : ygz P lm) : zdr P (zca l lm) := ⟨zu6 h, ydr hm⟩
theorem law_of_ac {P : Program} {f : FuncId} {fn : Func} {c : Code} {xs : List AV} {vs : Array Value} (hf : P.funcs[f]? = some fn) (hb : fn.body = some c) (hn : (fn.name == "runtime.NumGoroutine") = false)
   (h : zad P f xs (.bool true)) (D : Nat -> Prop) (w : World) (hD : ∀ b, D b -> b < w.heap.size) (hr : RL w.heap D zav xs vs) (hg : GOk w := by trivial) : Calls P f vs w fun e w' => e = .returned (.bool true) /\ Below w.heap.size w w' := by
 have h := h D w vs hD hr hg
 unfold zek at h
 rw [zcv hf hn hb] at h
 refine h.mono ?_
 rintro e w' ⟨v, D', rfl, hw, _, _, r⟩
 cases r
 exact ⟨rfl, hw⟩
theorem rl_nil {h : Array Obj} {D : Nat -> Prop} : RL h D zav [] #[] := ⟨rfl, fun i x v h => by simp at h⟩
theorem rl_of {h : Array Obj} {D : Nat -> Prop} {xs : List AV} {vs : Array Value} {x : AV} {v : Value} (hx : R h D zav x v) (hr : RL h D zav xs ⟨vs.toList⟩) : RL h D zav (x :: xs) ⟨v :: vs.toList⟩ := by
 obtain ⟨h1, h2⟩ := hr
 refine ⟨by simpa using h1, ?_⟩
 intro i y u hy hu
 cases i with
 | zero => simp at hy hu; subst hy hu; exact hx
 | succ i => simp at hy hu; exact h2 i y u hy (by simpa using hu)
theorem yx9 (q : Nat) (k : IntKind) (v : Int) (f : Nat -> Int) (i j : Nat) (h : j < 1) : over std q 0 1 [.int k v] (fun i _ => .int k (f i)) i j = .int k (if i = q then v else f i) := by
 rw [zgz, if_pos (by omega)]
 have h0 : j = 0 := by omega
 subst h0
 by_cases e : i = q
 · subst e; simp [zhc, zbn, L3, std, za6]
 · simp [zan e, zhc, zbn, L3, std, e]
theorem zhw {p q : Nat} (h : p < q) : zbk p q = true := by rw [zcn]; exact h
theorem zjy {p q : Nat} (h : ¬ p < q) : zbk p q = false := by rw [Bool.eq_false_iff, ne_eq, zcn]; exact h
theorem yjc {h : Array Obj} {D : Nat -> Prop} {μ : Mu} {sz n : Nat} {g g' : Nat -> Nat -> AV} {v : Value} (r : R h D μ (.lst sz n g) v) (e : ∀ i j, i < n -> j < sz -> g i j = g' i j) : R h D μ (.lst sz n g') v := by
 cases r with
 | lst0 sz get a cap hn => exact .lst0 _ _ _ _ hn
 | lst sz n get b o cap vs hD hc hv h1 hr => exact .lst _ _ _ b o cap vs hD hc hv h1 (fun i j hi hj => by rw [<- e i j hi hj]; exact hr i j hi hj)
set_option linter.defProp false in
def sySet := And.intro @zcp (And.intro @zeh (And.intro @yem (And.intro @yjx (And.intro @zn2 (And.intro @zzf (And.intro @yju (And.intro @yjv (And.intro @ybr (And.intro @ybs (And.intro @zn1 (And.intro @yxw (And.intro @yjw (And.intro @yto (And.intro @zdt (And.intro @yqt (And.intro @zah (And.intro @zer (And.intro @zpq (And.intro @zo1 (And.intro @zgr (And.intro @yf3 (And.intro @zko (And.intro @zde (And.intro @ziu (And.intro @zgb (And.intro @ynp (And.intro @ync (And.intro @ynl (And.intro @za1 (And.intro @yek (And.intro @yel (And.intro @Bool.not_eq_true' (And.intro @Bool.not_eq_false' (And.intro @Bool.and_eq_true (And.intro @Bool.and_eq_false_imp (And.intro @Bool.or_eq_true (And.intro @Bool.or_eq_false_iff (And.intro @Bool.not_true (And.intro @Bool.not_false (And.intro @zha (And.intro @ywl (And.intro @ysd (And.intro @ywj (And.intro @ywk (And.intro @w_u8 (And.intro @Int.zero_add (And.intro @yoy (And.intro @ykh (And.intro @zmx (And.intro @ze3 (And.intro @zdf (And.intro @ze2 (And.intro @zo2 (And.intro @yf1 (And.intro @zgq (And.intro @yez (And.intro @yf0 (And.intro @zrs (And.intro @zeq (And.intro @zo0 (And.intro @yey (And.intro @zfa (And.intro @zjv (And.intro @zru (And.intro @ykg (And.intro @zit (And.intro @yf4 (And.intro @zh6 @zrt))))))))))))))))))))))))))))))))))))))))))))))))))))))))))))))))))))
set_option linter.defProp false in
def syB := And.intro @Decidable.not_not (And.intro @true_and (And.intro @and_true (And.intro @decide_eq_true_eq (And.intro @decide_eq_false_iff_not (And.intro @imp_false (And.intro not_false_eq_true (And.intro not_true_eq_false (And.intro @false_imp_iff (And.intro @true_imp_iff (And.intro @forall_const.{0} (And.intro @forall_const.{1} (And.intro @implies_true.{0} (And.intro @implies_true.{1} (And.intro @ne_eq.{1} (And.intro @Int.cast_ofNat_Int (And.intro @Int.toNat_natCast (And.intro @Nat.succ_eq_add_one (And.intro @Nat.le_eq (And.intro @Nat.sub_eq (And.intro @zfi.eq_1 (And.intro @zj7.eq_1 (@zsp.eq_1))))))))))))))))))))))
set_option linter.defProp false in
def syS := And.intro sySet syB
end Sy
end Go.Proofs.YtogpolfhcbgcbaaGreatDoor
namespace Go.Proofs.YtogpolfhcbgcbaaGreatDoor
namespace Sy
open Go Go.RowKit
set_option linter.unusedSimpArgs false
set_option linter.unusedVariables false
set_option linter.unusedSectionVars false
def yx6 : List (Nat × Ob) -> List Nat
 | [] => []
 | (n, _) :: r => match zfu n with | true => n :: yx6 r | false => yx6 r
def zof : List (Nat × Ob) -> Bool
 | [] => true
 | (n, _) :: r => match zfu n with | true => zof r | false => false
def zu4 (L : zab) (ice : List Nat) : Nat -> List AV -> List (Nat × Ob) -> Option (List AV × List (Nat × Ob))
 | _, [], O => some ([], O)
 | d, .slc id sz off n cap :: r, O => match za3 O id, zbu ice id, za3 O d, zfu d with
   | some (.row ty sz' _ get), false, none, false => match cond (zbk 0 sz) (zat sz sz') false with
     | true => match zu4 L ice (d + 1) r ((d, .row ty sz (L2 L Nat.add off n) get) :: (id, .gone) :: O) with
       | some (vs, O') => some (.sl d sz off n :: vs, O')
       | none => none
     | false => none
   | _, _, _, _ => none
 | d, v :: r, O => match zu4 L ice d r O with
   | some (vs, O') => some (v :: vs, O')
   | none => none
section
variable (T : TT) (L : zab) (S : zqc) (lo lb : Nat -> St -> Option Ann)
def yv2 (rts : List AV) (O1 : List (Nat × Ob)) (rs : List ResultVar) (s : St) : zc6 :=
 match ycp T s rs with
 | some vs => match zat (zdp vs) (zdp rts) with
   | true => match zu4 L s.ice 600010 vs s.objs with
     | some (vs, O) => zz2 ⟨zyx 0 vs, O, s.ice, []⟩ ⟨zyx 0 rts, O1, [], []⟩ (yx6 O1) .yes
     | none => .fail 265
   | false => .fail 263
 | none => .fail 264
def finM (rts : List AV) (O1 : List (Nat × Ob)) (rs : List ResultVar) : K := fun e s => match e with
 | .normal => yv2 T L rts O1 rs s
 | .ret => yv2 T L rts O1 rs s
 | _ => .fail 262
def yww (n : Nat) (f : Func) (xs : List AV) (O : List (Nat × Ob)) (rts : List AV) (O1 : List (Nat × Ob)) : zc6 :=
 match f.body with
 | some c => run T L S lo (znb lb (pass T L S lo lb n)) noL c ⟨zyx 0 xs, O, [], []⟩ (finM T L rts O1 f.results.toList)
 | none => .fail 270
end
def ycq : List AV -> AV
 | [r] => r
 | rs => .tup rs
theorem zoe : ∀ {O : List (Nat × Ob)}, zof O = true -> ∀ n, za3 O n ≠ none -> zfu n = true
 | [], _, n, h => by simp [za3] at h
 | (m, o) :: r, e, n, h => by
   unfold zof at e
   unfold za3 at h
   split at e
   · rename_i hp
     split at h
     · rename_i hb; rw [<- za4 hb]; exact hp
     · exact zoe e n h
   · cases e
section
variable {P : Program} {T : TT} {base : Nat} {M : Two} {W : World} {nt : Nat} {f : Nat -> Option AV} {g : Nat -> Option Ob} {c : Nat -> Bool} {a : Act} {w : World} {D : Nat -> Prop} {μ : Mu} {o : Oper}
theorem Sim.rename (h : Sim base M W nt f g c a w D μ) {d id b z m k ty sz : Nat} {get get' : Nat -> Nat -> AV} (hp : zfu d = false) (hd : g d = none) (hμ : μ id = some (some (b, z, m))) (hg : g id = some (.row ty sz m get)) (hc : c id = false)
   (hz : k * sz <= z) (hs : 0 < sz) (hget : ∀ i j, i < k -> j < sz -> (i < m /\ get' i j = get i j) \/ get' i j = .dead) :
   Sim base M W nt f (zb5 g [(d, .row ty sz k get'), (id, .gone)]) c a w D (fun i => if i = d then some (some (b, z, k)) else μ i) := by
 have hdid : d ≠ id := by rintro rfl; rw [hd] at hg; cases hg
 obtain ⟨_, C, tt, fr, hh, hcs, hf, hle, hrow⟩ := h.obs id _ _ hg hμ
 obtain ⟨hblt, hbb⟩ := h.own id b _ hμ
 have hnD := (h.kd id b _ _ hμ hg (by simp)).2 hc
 have hfree : ∀ i o2 z2, μ i = some (some (b, z2)) -> zb5 g [(id, .gone)] i = some o2 -> o2 = .gone := by
   intro i o2 z2 k1 k2
   by_cases k3 : id = i
   · subst k3
     simp [zb5, za3, za6] at k2
     exact k2.symm
   · simp [zb5, za3, zan k3] at k2
     by_cases k4 : o2 = .gone
     · exact k4
     · exact absurd (h.inj id i b _ z2 _ o2 hμ k1 hg k2 (by simp) k4) k3
 have hgone := h.gone hg
 have hd2 : zb5 g [(id, .gone)] d = none := by simp [zb5, za3, zan (fun x => hdid x.symm : ¬ id = d), hd]
 have had := hgone.adopt (d := d) hp hd2 (b := b) (z := z) (m := k) hblt hbb hnD hfree (ob := .row ty sz k get') (by simp) C (fun hD => by
   rw [setRow_self w b C tt fr hh]
   refine ⟨rfl, C, tt, fr, hh, hcs, hf, hz, fun i j hi hj => ?_⟩
   have hlt : i * sz + j < C.size := by
     have h3 : (i + 1) * sz <= k * sz := Nat.mul_le_mul_right _ hi
     rw [Nat.add_mul] at h3
     omega
   rcases hget i j hi hj with ⟨him, e⟩ | e
   · rw [e]; exact hrow i j him hj
   · rw [e]
     exact ⟨_, getD_some hlt, hf.2.2.1 _ _ (getD_some hlt), .dead _⟩)
 rw [setRow_self w b C tt fr hh] at had
 have e2 : zb5 (zb5 g [(id, .gone)]) [(d, .row ty sz k get')] = zb5 g [(d, .row ty sz k get'), (id, .gone)] := by
   funext q
   simp only [zb5, za3]
   by_cases k1 : d = q
   · subst k1; simp [za6]
   · by_cases k2 : id = q
     · subst k2; simp [za6, zan hdid]
     · simp [zan k1, zan k2]
 rw [e2] at had
 exact had
theorem Sim.renameNil (h : Sim base M W nt f g c a w D μ) {d id m ty sz : Nat} {get get' : Nat -> Nat -> AV} (hp : zfu d = false) (hd : g d = none) (hμ : μ id = some none) (hg : g id = some (.row ty sz m get)) :
   Sim base M W nt f (zb5 g [(d, .row ty sz 0 get'), (id, .gone)]) c a w D (fun i => if i = d then some none else μ i) := by
 have hdid : d ≠ id := by rintro rfl; rw [hd] at hg; cases hg
 have hgone := h.gone hg
 have hd2 : zb5 g [(id, .gone)] d = none := by simp [zb5, za3, zan (fun x => hdid x.symm : ¬ id = d), hd]
 have had := hgone.newNil (d := d) hp hd2 ty sz get'
 have e2 : zb5 (zb5 g [(id, .gone)]) [(d, .row ty sz 0 get')] = zb5 g [(d, .row ty sz 0 get'), (id, .gone)] := by
   funext q
   simp only [zb5, za3]
   by_cases k1 : d = q
   · subst k1; simp [za6]
   · by_cases k2 : id = q
     · subst k2; simp [za6, zan hdid]
     · simp [zan k1, zan k2]
 rw [e2] at had
 exact had
theorem yfd {d : Nat} {y : Option (Nat × Nat × Nat)} (hd : μ d = none) : ∀ i x, μ i = some x -> (if i = d then some y else μ i) = some x := by
 intro i x hx
 have : i ≠ d := by rintro rfl; rw [hd] at hx; cases hx
 rw [if_neg this, hx]
theorem agets (O : List (Nat × Ob)) (p : Nat × Ob) (q : Nat × Ob) : za3 (p :: q :: O) = zb5 (za3 O) [p, q] := by
 funext i
 obtain ⟨p, x⟩ := p
 obtain ⟨q, y⟩ := q
 simp only [zb5, za3]
 cases zat p i with
 | true => rfl
 | false => cases zat q i <;> rfl
theorem yy0 (h : Sim base M W nt f g c a w D μ) {d id ty sz m off n cap : Nat} {get : Nat -> Nat -> AV} {v : Value} (hp : zfu d = false) (hd : g d = none) (hg : g id = some (.row ty sz m get)) (hc : c id = false) (hs : 0 < sz) (r : R w.heap D μ (.slc id sz off n cap) v) :
   ∃ μ', Sim base M W nt f (zb5 g [(d, .row ty sz (off + n) get), (id, .gone)]) c a w D μ' /\ (∀ i y, μ i = some y -> μ' i = some y) /\ R w.heap D μ' (.sl d sz off n) v := by
 have hmd : μ d = none := (h.dom d).2 hd
 cases r with
 | slcv _ _ ad hm =>
   exact ⟨_, h.renameNil hp hd hm hg, yfd hmd, .slv _ _ _ (by simp)⟩
 | slc0 _ _ _ b z mm o hm ho =>
   have hmm := (h.obs id _ _ hg hm).1
   subst hmm
   obtain ⟨_, C, tt, fr, hh, hcs, hf, hle, hrow⟩ := h.obs id _ _ hg hm
   exact ⟨_, h.rename (k := off + 0) (get' := get) hp hd hm hg hc (Nat.le_trans (Nat.mul_le_mul_right _ ho) hle) hs (fun i j hi hj => .inl ⟨by omega, rfl⟩), yfd hmd, .sl0 _ _ _ b z off o (by simp) (by omega)⟩
 | slc _ _ _ _ _ b z mm hm hn hz ho =>
   have hmm := (h.obs id _ _ hg hm).1
   subst hmm
   exact ⟨_, h.rename (k := off + n) (get' := get) hp hd hm hg hc (Nat.le_trans (Nat.mul_le_mul_right _ (by omega)) hz) hs (fun i j hi hj => .inl ⟨by omega, rfl⟩), yfd hmd, .sl _ _ _ _ b z (off + n) cap (by simp) hn hz (by omega)⟩
theorem zpo {ice : List Nat} : ∀ (vs : List AV) (d : Nat) (O : List (Nat × Ob)) (vs' : List AV) (O' : List (Nat × Ob)) (us : Nat -> Value) {μ : Mu}, zu4 std ice d vs O = some (vs', O') -> Sim base M W nt f (za3 O) (zbu ice) a w D μ -> (∀ t v, vs[t]? = some v -> R w.heap D μ v (us t)) ->
   ∃ μ', Sim base M W nt f (za3 O') (zbu ice) a w D μ' /\ vs'.length = vs.length /\ (∀ i y, μ i = some y -> μ' i = some y) /\ ∀ t v, vs'[t]? = some v -> R w.heap D μ' v (us t)
 | [], d, O, vs', O', us, μ, e, h, hr => by cases e; exact ⟨μ, h, rfl, fun _ _ h => h, hr⟩
 | x :: r, d, O, vs', O', us, μ, e, h, hr => by
   have plain : ∀ vs1, zu4 std ice d r O = some (vs1, O') -> vs' = x :: vs1 -> ∃ μ', Sim base M W nt f (za3 O') (zbu ice) a w D μ' /\ vs'.length = (x :: r).length /\ (∀ i y, μ i = some y -> μ' i = some y) /\ ∀ t v, vs'[t]? = some v -> R w.heap D μ' v (us t) := by
     rintro vs1 e1 rfl
     obtain ⟨μ2, k1, k2, k3, k4⟩ := zpo r d O vs1 O' (fun t => us (t + 1)) e1 h (fun t v hv => hr (t + 1) v hv)
     refine ⟨μ2, k1, by simp [k2], k3, fun t v hv => ?_⟩
     cases t with
     | zero => cases hv; exact (hr 0 _ rfl).mono (fun _ _ => rfl) (fun _ h => h) k3
     | succ t => exact k4 t v hv
   by_cases hx : ∃ id sz off n cap, x = .slc id sz off n cap
   · obtain ⟨id, sz, off, n, cap, rfl⟩ := hx
     simp only [zu4] at e
     split at e
     · rename_i ty sz' m get hg hc hd hp
       split at e
       · rename_i hsz
         have hs : zbk 0 sz = true := by cases hq : zbk 0 sz <;> simp_all
         rw [hs] at hsz
         obtain rfl := za4 hsz
         split at e
         · rename_i vs1 O1 e1
           cases e
           obtain ⟨μ1, h1, h2, h3⟩ := yy0 h hp hd hg hc (zd2 hs) (hr 0 _ rfl)
           rw [<- agets] at h1
           obtain ⟨μ2, k1, k2, k3, k4⟩ := zpo r (d + 1) _ vs1 _ (fun t => us (t + 1)) e1 h1 (fun t v hv => (hr (t + 1) v hv).mono (fun _ _ => rfl) (fun _ h => h) h2)
           refine ⟨μ2, k1, by simp [k2], fun i y hy => k3 i y (h2 i y hy), fun t v hv => ?_⟩
           cases t with
           | zero => cases hv; exact h3.mono (fun _ _ => rfl) (fun _ h => h) k3
           | succ t => exact k4 t v hv
         · cases e
       · cases e
     · cases e
   · have e' : (match zu4 std ice d r O with | some (vs, O') => some (x :: vs, O') | none => none) = some (vs', O') := by
       cases x <;> first | exact e | exact absurd ⟨_, _, _, _, _, rfl⟩ hx
     split at e'
     · rename_i vs1 O1 e1
       cases e'
       exact plain vs1 e1 rfl
     · cases e'
end
theorem zz4 {P : Program} {T : TT} {Q : AV -> Prop} {fn : Func} {O O1 : List (Nat × Ob)} {rts : List AV} {D : Nat -> Prop} {w : World} {μ : Mu} (hT : zbw P T) (hD : ∀ b, D b -> b < w.heap.size) (hdom : ∀ n, μ n = none ↔ za3 O n = none)
   (hown : ∀ n b z, μ n = some (some (b, z)) -> b < w.heap.size /\ ¬ D b) (hrb : fn.results.size <= 500000) (hpin : zof O = true) {nt : Nat} {s : St} {a : Act} {w' : World} {D1 : Nat -> Prop} {μ1 : Mu}
   (S1 : Sim w.heap.size ⟨fun b => ∃ n z, μ n = some (some (b, z)), D, fun n => (μ n).getD none⟩ w nt (za3 s.slots) (za3 s.objs) (zbu s.ice) a w' D1 μ1)
   (h' : Sat P Q (yv2 T std rts O1 fn.results.toList s)) : a.defers = [] /\ ∃ v, (results fn a.tmps).run P w' = .ok v w' /\ ∃ v' D' μ', yrn D w μ O O1 (ycq rts) (Ending.returned v) v' w' D' μ' := by
 unfold yv2 at h'
 split at h'
 · rename_i vs1 hvs
   split at h'
   · rename_i hlen
     have hlen := za4 hlen
     rw [zal, zal] at hlen
     obtain ⟨l1, us, h1, h2⟩ := zt2 S1 hT hvs
     split at h'
     rotate_left
     · cases h'
     rename_i vs2 O2 hhide
     obtain ⟨μ3, S3, l3, _, h4⟩ := zpo vs1 600010 s.objs vs2 O2 us hhide S1 h2
     have l1 : vs2.length = fn.results.toList.length := l3.trans l1
     have hlen : vs2.length = rts.length := l3.trans hlen
     clear h2
     have h2 := h4
     have hres := zlf (P := P) (w := w') (fn := fn) (tmps := a.tmps) h1
     have hk : vs2.length = fn.results.size := by rw [l1, Array.length_toList]
     have hut : ∀ t, t < fn.results.size -> (((List.range fn.results.size).map us).toArray).getD t undef = us t := by
       intro t ht
       rw [Array.getD_eq_getD_getElem?]
       simp [ht]
     have hs1 : zmp w.heap.size ⟨fun b => ∃ n z, μ n = some (some (b, z)), D, fun n => (μ n).getD none⟩ w fn.results.size ⟨zyx 0 vs2, O2, s.ice, []⟩ ⟨((List.range fn.results.size).map us).toArray, []⟩ w' :=
       ⟨⟨D1, μ3, {
         os := S1.os, tape := S1.tape, output := S1.output, size := S1.size, bs := S1.bs, old := S1.old, defers := rfl
         tmps := by simp
         slots := fun t v hv => by
           have hv : za3 (zyx 0 vs2) t = some v := hv
           rw [zff, if_pos (by omega), Nat.sub_zero] at hv
           have ht := (List.getElem?_eq_some_iff.1 hv).1
           rw [hut t (by omega)]
           exact h2 t v hv
         dlt := S3.dlt, low := S3.low, dom := S3.dom, obs := S3.obs, inj := S3.inj, own := S3.own, kd := S3.kd, icy := S3.icy, ntb := hrb, pin := S3.pin, gl := S3.gl }⟩, fun t b ht => by simp [za3] at ht⟩
     obtain ⟨⟨⟨D2, μ2, S2⟩, _⟩, _⟩ := ydv hs1 h' rfl
     refine ⟨S1.defers, _, hres, (if fn.results.size = 1 then us 0 else .tuple ((List.range fn.results.size).map us).toArray), fun b => D b \/ D2 b, μ2, ?_⟩
     exact {
       ret := rfl, os := S2.os, tape := S2.tape, output := S2.output, size := S2.size
       old := fun b h1 h2 => S2.old b h1 fun ⟨n, z, hn⟩ => h2 n z hn
       up := fun b hb => .inl hb
       dn := fun b hb => by
         rcases hb with hb | hb
         · exact .inl hb
         · by_cases hlt : b < w.heap.size
           · rcases S2.low b hb hlt with q | q
             · exact .inl q
             · exact .inr (.inr q)
           · exact .inr (.inl ⟨by omega, S2.dlt b hb⟩)
       dom := S2.dom
       obs := fun n o x ho hx => (S2.obs n o x ho hx).mono (fun _ _ => rfl) (fun _ h => .inr h) (fun _ _ h => h) (fun _ _ _ _ => rfl)
       inj := fun n n' b z z' h1 h2 => by
         have g1 : za3 O1 n ≠ none := fun e => by rw [(S2.dom n).2 e] at h1; cases h1
         have g2 : za3 O1 n' ≠ none := fun e => by rw [(S2.dom n').2 e] at h2; cases h2
         obtain ⟨o1, q1⟩ := Option.ne_none_iff_exists'.1 g1
         obtain ⟨o2, q2⟩ := Option.ne_none_iff_exists'.1 g2
         exact S2.inj n n' b z z' o1 o2 h1 h2 q1 q2 (zlu hs1 h' n o1 q1) (zlu hs1 h' n' o2 q2)
       own := fun n b z h1 => by
         have g1 : za3 O1 n ≠ none := fun e => by rw [(S2.dom n).2 e] at h1; cases h1
         obtain ⟨o1, q1⟩ := Option.ne_none_iff_exists'.1 g1
         have k := (S2.kd n b z o1 h1 q1 (zlu hs1 h' n o1 q1)).2 rfl
         obtain ⟨p1, p2⟩ := S2.own n b z h1
         refine ⟨p1, ?_, ?_⟩
         · rintro (hb | hb)
           · rcases p2 with p2 | ⟨m, z2, p2⟩
             · have := hD b hb; omega
             · exact (hown m b z2 p2).2 hb
           · exact k hb
         · rcases p2 with p2 | ⟨m, z2, p2⟩
           · exact .inl p2
           · exact .inr ⟨m, z2, p2⟩
       keep := fun n hn hn1 => by
         obtain ⟨y, hy⟩ := Option.ne_none_iff_exists'.1 (fun e => hn1 ((S2.dom n).1 e) : μ2 n ≠ none)
         have := S2.pin n y (zoe hpin n hn) hy
         have h3 : μ n ≠ none := fun e => hn ((hdom n).1 e)
         obtain ⟨y0, hy0⟩ := Option.ne_none_iff_exists'.1 h3
         have h4 : y = (μ n).getD none := this
         rw [hy0] at h4
         rw [hy, hy0, h4]; rfl
       val := by
         have each : ∀ (i : Nat) r, rts[i]? = some r -> R w'.heap (fun b => D b \/ D2 b) μ2 r (us i) := by
           intro i r hr
           have hlt : i < fn.results.size := by
             have := (List.getElem?_eq_some_iff.1 hr).1
             omega
           have := S2.slots i r (by show za3 (zyx 0 rts) i = some r; rw [zff, if_pos (by omega), Nat.sub_zero]; exact hr)
           have h3 := hut i hlt
           have this : R w'.heap D2 μ2 r ((((List.range fn.results.size).map us).toArray).getD i undef) := this
           rw [h3] at this
           exact this.mono (fun _ _ => rfl) (fun _ h => .inr h) (fun _ _ h => h)
         unfold ycq
         split
         · rename_i r
           have hsz : fn.results.size = 1 := by rw [<- hk, hlen]; rfl
           rw [if_pos hsz]
           exact each 0 _ rfl
         · rename_i hne
           have hsz : ¬ fn.results.size = 1 := by
             rw [<- hk, hlen]
             intro h1
             obtain ⟨v, hv⟩ := List.length_eq_one_iff.1 h1
             exact hne v hv
           rw [if_neg hsz]
           refine .tup _ _ (by simp; omega) fun i v x hv hx => ?_
           have hlt : i < fn.results.size := by
             have := (List.getElem?_eq_some_iff.1 hv).1
             omega
           simp [hlt] at hx
           subst hx
           exact each i v hv }
   · cases h'
 · cases h'
theorem ydx {P : Program} {T : TT} {S : zqc} {lo lb : Nat -> St -> Option Ann} {n : Nat} {f : FuncId} {fn : Func} {c : Code} {xs : List AV} {O : List (Nat × Ob)} {rts : List AV} {O1 : List (Nat × Ob)} (hf : P.funcs[f]? = some fn) (hb : fn.body = some c) (hn : (fn.name == "runtime.NumGoroutine") = false)
   (hc : zc3 fn.ntmps c = true) (hx : (zbx xs.length fn.ntmps && zbx fn.ntmps 500000 && zbx fn.results.size 500000 && zof O) = true) (hT : zbw P T) (hS : zdr P S) (hm : P.follows .mixedOrders = true) {Q : AV -> Prop} (h : Sat P Q (yww T std S lo lb n fn xs O rts O1)) : zbj P f xs O (ycq rts) O1 := by
 intro D w μ vs hD hxs hdom hobs hinj hown hg hgb
 rw [Bool.and_eq_true, Bool.and_eq_true, Bool.and_eq_true] at hx
 obtain ⟨⟨⟨hx, hnb⟩, hrb⟩, hpin⟩ := hx
 have hx := zbh hx
 have hnb := zbh hnb
 have hrb := zbh hrb
 unfold zek
 rw [zcv hf hn hb]
 simp only
 refine calls_of_wp hf hb ?_
 unfold yww at h
 rw [hb] at h
 refine yfu (base := w.heap.size) (M := ⟨fun b => ∃ n z, μ n = some (some (b, z)), D, fun n => (μ n).getD none⟩) (W := w) hT hS hm hc ⟨⟨D, μ, ?_⟩, fun t b ht => by simp [za3] at ht⟩ h (fun e s a w' hs h' => ?_)
 · exact {
     os := rfl, tape := rfl, output := rfl, size := Nat.le_refl _, bs := Nat.le_refl _, old := fun _ _ _ => rfl, defers := rfl
     tmps := by
       rw [hxs.1] at hx
       simp; omega
     slots := fun t v hv => by
       have hv : za3 (zyx 0 xs) t = some v := hv
       rw [zff, if_pos (by omega), Nat.sub_zero] at hv
       have hlt : t < vs.size := by rw [<- hxs.1]; exact (List.getElem?_eq_some_iff.1 hv).1
       have h1 : vs[t]? = some vs[t] := by simp [hlt]
       have h2 : (vs ++ Array.replicate (fn.ntmps - vs.size) undef).getD t undef = vs[t] := by
         rw [Array.getD_eq_getD_getElem?, Array.getElem?_append_left hlt, h1]; rfl
       rw [h2]
       exact hxs.2 t v vs[t] hv h1
     dlt := hD, low := fun b hb _ => .inl hb, dom := hdom, obs := hobs
     inj := fun id id' b z z' o o' h1 h2 _ _ _ _ => hinj id id' b z z' h1 h2
     own := fun id b z h1 => ⟨(hown id b z h1).1, .inr ⟨id, z, h1⟩⟩
     kd := fun id b z o h1 _ _ => ⟨fun hx => by simp [zbu] at hx, fun _ => (hown id b z h1).2⟩
     icy := fun id h => by simp [zbu] at h
     ntb := hnb
     pin := fun id y _ hy => by show y = (μ id).getD none; rw [hy]; rfl
     gl := ⟨hg, zxp hg, fun b ⟨n, z, hn⟩ => hgb n b z hn⟩ }
 · obtain ⟨⟨D1, μ1, S1⟩, _⟩ := hs
   have key : Sat P Q (yv2 T std rts O1 fn.results.toList s) -> a.defers = [] /\ ∃ v, (results fn a.tmps).run P w' = .ok v w' /\ ∃ v' D' μ', yrn D w μ O O1 (ycq rts) (Ending.returned v) v' w' D' μ' := fun h' => zz4 hT hD hdom hown hrb hpin S1 h'
   cases e with
   | normal => exact key h'
   | ret => exact key h'
   | exit id => cases h'
   | goto l => cases h'
end Sy
end Go.Proofs.YtogpolfhcbgcbaaGreatDoor
namespace Go.Proofs.YtogpolfhcbgcbaaGreatDoor
namespace Sy
open Go Go.RowKit
set_option maxRecDepth 100000
set_option linter.unusedSimpArgs false
section
variable {P : Program} {Q : AV -> Prop}
theorem yi5 {b : Bool} {k : zc6} : Sat P Q (.need b k) ↔ b = true /\ Sat P Q k := ⟨fun h => by cases h with | need h hk => exact ⟨h, hk⟩, fun h => .need h.1 h.2⟩
theorem yi6 {p : Prop} {k : zc6} : Sat P Q (.must p k) ↔ p /\ Sat P Q k := ⟨fun h => by cases h with | must h hk => exact ⟨h, hk⟩, fun h => .must h.1 h.2⟩
theorem ynt {b : Bool} {t e : zc6} : Sat P Q (.ite b t e) ↔ (b = true -> Sat P Q t) /\ (b = false -> Sat P Q e) := ⟨fun h => by cases h with | ite h hk => exact ⟨h, hk⟩, fun h => .ite h.1 h.2⟩
theorem yi8 {r : AV} : Sat P Q (.done r) ↔ Q r := ⟨fun h => by cases h with | done h => exact h, fun h => .done h⟩
theorem ynr : Sat P Q .yes ↔ True := ⟨fun _ => trivial, fun _ => .yes⟩
theorem ysr {X : Type} {f : X -> zc6} : Sat P Q (.ex X f) ↔ ∃ x, Sat P Q (f x) := ⟨fun h => by cases h with | ex x h => exact ⟨x, h⟩, fun ⟨x, h⟩ => .ex x h⟩
theorem ynv {X : Type} {f : X -> zc6} : Sat P Q (.all X f) ↔ ∀ x, Sat P Q (f x) := ⟨fun h => by cases h with | all h => exact h, fun h => .all h⟩
theorem yns {p : Prop} {k : zc6} : Sat P Q (.sup p k) ↔ (p -> Sat P Q k) := ⟨fun h => by cases h with | sup h => exact h, fun h => .sup h⟩
theorem ynu {a b : zc6} : Sat P Q (.and a b) ↔ Sat P Q a /\ Sat P Q b := ⟨fun h => by cases h with | and h hk => exact ⟨h, hk⟩, fun h => .and h.1 h.2⟩
theorem yi7 {n : Nat} : Sat P Q (.fail n) ↔ False := ⟨fun h => (by cases h), fun h => h.elim⟩
set_option linter.defProp false in
def syT := And.intro @yi5 (And.intro @yi6 (And.intro @ynt (And.intro @yi8 (And.intro @ynr (And.intro @ysr (And.intro @ynv (And.intro @yns (And.intro @ynu (@yi7)))))))))
end
theorem zaa {P : Program} {T : TT} {S : zab -> zqc} {lo lb : zab -> Nat -> St -> Option Ann} (n : Nat) {f : FuncId} {fn : Func} {c : Code} {xs : List AV} {r : AV} (hf : P.funcs[f]? = some fn) (hb : fn.body = some c) (hn : (fn.name == "runtime.NumGoroutine") = false)
   (hc : zc3 fn.ntmps c = true) (hx : (zbx xs.length fn.ntmps && zbx fn.ntmps 500000) = true) (hT : zbw P T) (hS : zdr P (S std)) (hm : P.follows .mixedOrders = true)
   (h : ∀ (L : zab) (P' : Program) (Q' : AV -> Prop), @L = @std -> P' = P -> Q' = zg4 r -> Sat P' Q' (yvw T L (S L) (lo L) (lb L) n fn xs)) : zad P f xs r :=
 zsf (lo := lo std) (lb := lb std) hf hb hn hc hx hT hS hm (h std _ _ rfl rfl rfl)
theorem za8 {P : Program} {T : TT} {S : zab -> zqc} {lo lb : zab -> Nat -> St -> Option Ann} (n : Nat) {f : FuncId} {fn : Func} {c : Code} {xs : zab -> List AV} {r : AV} (hf : P.funcs[f]? = some fn) (hb : fn.body = some c) (hn : (fn.name == "runtime.NumGoroutine") = false)
   (hc : zc3 fn.ntmps c = true) (hx : (zbx (xs std).length fn.ntmps && zbx fn.ntmps 500000) = true) (hT : zbw P T) (hS : zdr P (S std)) (hm : P.follows .mixedOrders = true)
   (h : ∀ (L : zab) (P' : Program) (Q' : AV -> Prop), @L = @std -> P' = P -> Q' = zg4 r -> Sat P' Q' (yvw T L (S L) (lo L) (lb L) n fn (xs L))) : zad P f (xs std) r :=
 zsf (lo := lo std) (lb := lb std) hf hb hn hc hx hT hS hm (h std _ _ rfl rfl rfl)
theorem zbc {P : Program} {T : TT} {S : zab -> zqc} {lo lb : zab -> Nat -> St -> Option Ann} (n : Nat) {f : FuncId} {fn : Func} {c : Code} {xs rts : zab -> List AV} {O O1 : zab -> List (Nat × Ob)} (hf : P.funcs[f]? = some fn) (hb : fn.body = some c) (hn : (fn.name == "runtime.NumGoroutine") = false)
   (hc : zc3 fn.ntmps c = true) (hx : (zbx (xs std).length fn.ntmps && zbx fn.ntmps 500000 && zbx fn.results.size 500000 && zof (O std)) = true) (hT : zbw P T) (hS : zdr P (S std)) (hm : P.follows .mixedOrders = true)
   (h : ∀ (L : zab) (P' : Program) (Q' : AV -> Prop), @L = @std -> P' = P -> Q' = (fun _ => True) -> Sat P' Q' (yww T L (S L) (lo L) (lb L) n fn (xs L) (O L) (rts L) (O1 L))) : zbj P f (xs std) (O std) (ycq (rts std)) (O1 std) :=
 ydx (lo := lo std) (lb := lb std) hf hb hn hc hx hT hS hm (h std _ _ rfl rfl rfl)
def noS : zab -> zqc := fun _ => ⟨fun _ _ => none, fun _ => none⟩
theorem zc2 (P : Program) : zdr P (noS std) := ⟨fun f xs p r h => by (cases h), fun f m h => by cases h⟩
def noA : zab -> Nat -> St -> Option Ann := fun _ _ _ => none
def tt : TT :=
 (.node (.node (.node (.node (.node (.node (.node (.node .leaf 1 ⟨1, false, [.nilf], .func, false, none, false, false⟩
        .leaf) 2 ⟨1, false, [.int .i64 0], .int .i64, false, none, false, false⟩
       (.node .leaf 3 ⟨1, false, [.int .i64 0], .int .i64, false, none, false, false⟩
        .leaf)) 4 ⟨1, false, [.bool false], .bool, false, none, false, false⟩
      (.node (.node .leaf 5 ⟨1, false, [.int .u8 0], .int .u8, false, none, false, false⟩
        .leaf) 6 ⟨1, false, [.int .u8 0], .int .u8, false, none, false, false⟩
       .leaf)) 7 ⟨4, true, [.int .i64 0, .int .i64 0, .bool false, .int .u8 0], .struct [(0, 2), (1, 3), (2, 4), (3, 6)], true, none, false, false⟩
     (.node (.node (.node .leaf 8 ⟨4, true, [.int .i64 0, .int .i64 0, .bool false, .int .u8 0], .struct [(0, 2), (1, 3), (2, 4), (3, 6)], true, none, false, false⟩
        .leaf) 9 ⟨1, false, [.str []], .str, false, none, false, false⟩
       (.node .leaf 10 ⟨1, false, [.str []], .str, false, none, false, false⟩
        .leaf)) 11 ⟨1, false, [.str []], .str, false, none, false, false⟩
      (.node (.node .leaf 12 ⟨1, false, [.int .u64 0], .int .u64, false, none, false, false⟩
        .leaf) 13 ⟨2, true, [.str [], .int .u64 0], .struct [(0, 9), (1, 12)], false, none, false, false⟩
       .leaf))) 14 ⟨2, true, [.str [], .int .u64 0], .struct [(0, 9), (1, 12)], false, none, false, false⟩
    (.node (.node (.node (.node .leaf 15 ⟨1, false, [.nilp], .ptr, false, some 213, false, false⟩
        .leaf) 16 ⟨1, false, [.nilp], .ptr, false, some 216, false, false⟩
       (.node .leaf 17 ⟨1, false, [.nilp], .ptr, false, some 223, false, false⟩
        .leaf)) 18 ⟨1, true, [.nilp], .struct [(0, 17)], false, none, false, false⟩
      (.node (.node .leaf 19 ⟨1, true, [.nilp], .struct [(0, 17)], false, none, false, false⟩
        .leaf) 20 ⟨1, false, [.nili], .iface, false, none, false, false⟩
       .leaf)) 21 ⟨1, false, [.int .i32 0], .int .i32, false, none, false, false⟩
     (.node (.node (.node .leaf 22 ⟨4, true, [.int .u8 0, .int .u8 0, .int .u8 0, .int .u8 0], .arr 4 5 1, true, none, false, false⟩
        .leaf) 23 ⟨1, false, [.int .u16 0], .int .u16, false, none, false, false⟩
       .leaf) 24 ⟨5, true, [.int .u8 0, .int .u8 0, .int .u8 0, .int .u8 0, .int .u16 0], .struct [(0, 22), (4, 23)], true, none, false, false⟩
      (.node (.node .leaf 25 ⟨5, true, [.int .u8 0, .int .u8 0, .int .u8 0, .int .u8 0, .int .u16 0], .struct [(0, 22), (4, 23)], true, none, false, false⟩
        .leaf) 26 ⟨1, false, [.nils], .slice 37 4 56, false, none, false, false⟩
       .leaf)))) 27 ⟨7, true, [.str [], .int .u8 0, .int .u8 0, .int .u8 0, .int .u8 0, .int .u16 0, .nils], .struct [(0, 9), (1, 25), (6, 26)], false, none, false, false⟩
   (.node (.node (.node (.node (.node .leaf 28 ⟨7, true, [.str [], .int .u8 0, .int .u8 0, .int .u8 0, .int .u8 0, .int .u16 0, .nils], .struct [(0, 9), (1, 25), (6, 26)], false, none, false, false⟩
        .leaf) 29 ⟨1, false, [.nilf], .func, false, none, false, false⟩
       (.node .leaf 30 ⟨1, false, [.nilf], .func, false, none, false, false⟩
        .leaf)) 31 ⟨1, false, [.nilf], .func, false, none, false, false⟩
      (.node (.node .leaf 33 ⟨1, false, [.nilf], .func, false, none, false, false⟩
        .leaf) 34 ⟨1, false, [.nilf], .func, false, none, false, false⟩
       .leaf)) 35 ⟨1, false, [.int .u64 0], .int .u64, false, none, false, false⟩
     (.node (.node (.node .leaf 36 ⟨4, true, [.str [], .str [], .str [], .int .u64 0], .struct [(0, 9), (1, 9), (2, 9), (3, 35)], true, none, false, false⟩
        .leaf) 37 ⟨4, true, [.str [], .str [], .str [], .int .u64 0], .struct [(0, 9), (1, 9), (2, 9), (3, 35)], true, none, false, false⟩
       .leaf) 38 ⟨1, false, [.nilf], .func, false, none, false, false⟩
      (.node (.node .leaf 39 ⟨1, false, [.cpx .f64 0 0], .other, false, none, false, false⟩
        .leaf) 40 ⟨1, false, [.nilf], .func, false, none, false, false⟩
       .leaf))) 41 ⟨1, false, [.nilf], .func, false, none, false, false⟩
    (.node (.node (.node (.node .leaf 42 ⟨1, false, [.nilf], .func, false, none, false, false⟩
        .leaf) 43 ⟨5, true, [.int .u8 0, .int .u8 0, .int .u8 0, .int .u8 0, .int .u16 0], .struct [(0, 22), (4, 23)], true, none, false, false⟩
       (.node .leaf 44 ⟨1, false, [.nils], .slice 59 4 56, false, none, false, false⟩
        .leaf)) 45 ⟨7, true, [.str [], .int .u8 0, .int .u8 0, .int .u8 0, .int .u8 0, .int .u16 0, .nils], .struct [(0, 9), (1, 43), (6, 44)], false, none, false, false⟩
      (.node (.node .leaf 46 ⟨7, true, [.str [], .int .u8 0, .int .u8 0, .int .u8 0, .int .u8 0, .int .u16 0, .nils], .struct [(0, 9), (1, 43), (6, 44)], false, none, false, false⟩
        .leaf) 47 ⟨1, false, [.nils], .slice 46 7 48, false, none, false, false⟩
       .leaf)) 48 ⟨1, false, [.nils], .slice 82 2 40, false, none, false, false⟩
     (.node (.node (.node .leaf 49 ⟨3, true, [.int .u64 0, .nils, .nils], .struct [(0, 35), (1, 47), (2, 48)], false, none, false, false⟩
        .leaf) 50 ⟨3, true, [.int .u64 0, .nils, .nils], .struct [(0, 35), (1, 47), (2, 48)], false, none, false, false⟩
       .leaf) 51 ⟨1, false, [.nilf], .func, false, none, false, false⟩
      (.node (.node .leaf 52 ⟨1, false, [.nils], .slice 28 7 48, false, none, false, false⟩
        .leaf) 53 ⟨1, false, [.nils], .slice 79 2 40, false, none, false, false⟩
       .leaf))))) 54 ⟨3, true, [.int .u64 0, .nils, .nils], .struct [(0, 35), (1, 52), (2, 53)], false, none, false, false⟩
  (.node (.node (.node (.node (.node (.node .leaf 55 ⟨3, true, [.int .u64 0, .nils, .nils], .struct [(0, 35), (1, 52), (2, 53)], false, none, false, false⟩
        .leaf) 56 ⟨1, false, [.nils], .slice 3 1 8, false, none, false, false⟩
       (.node .leaf 57 ⟨1, false, [.nilf], .func, false, none, false, false⟩
        .leaf)) 58 ⟨1, false, [.nilf], .func, false, none, false, false⟩
      (.node (.node .leaf 59 ⟨4, true, [.str [], .str [], .str [], .int .u64 0], .struct [(0, 9), (1, 9), (2, 9), (3, 35)], true, none, false, false⟩
        .leaf) 61 ⟨1, false, [.nilf], .func, false, none, false, false⟩
       .leaf)) 62 ⟨1, false, [.flt .f64 0], .flt .f64, false, none, false, false⟩
     (.node (.node (.node .leaf 63 ⟨1, false, [.nilf], .func, false, none, false, false⟩
        .leaf) 64 ⟨1, false, [.nilf], .func, false, none, false, false⟩
       .leaf) 65 ⟨1, false, [.nilf], .func, false, none, false, false⟩
      (.node (.node .leaf 66 ⟨1, false, [.nilf], .func, false, none, false, false⟩
        .leaf) 67 ⟨1, false, [.nilf], .func, false, none, false, false⟩
       .leaf))) 68 ⟨1, false, [.nilf], .func, false, none, false, false⟩
    (.node (.node (.node (.node .leaf 69 ⟨1, false, [.int .i64 0], .int .i64, false, none, false, false⟩
        .leaf) 70 ⟨1, false, [.nilf], .func, false, none, false, false⟩
       (.node .leaf 71 ⟨1, false, [.nilf], .func, false, none, false, false⟩
        .leaf)) 72 ⟨1, false, [.nilf], .func, false, none, false, false⟩
      (.node (.node .leaf 74 ⟨1, false, [.nilf], .func, false, none, false, false⟩
        .leaf) 75 ⟨1, false, [.nils], .slice 9 1 16, false, none, false, false⟩
       .leaf)) 76 ⟨1, false, [.nilf], .func, false, none, false, false⟩
     (.node (.node (.node .leaf 77 ⟨1, false, [.nils], .slice 84 6 16, false, none, false, false⟩
        .leaf) 78 ⟨2, true, [.str [], .nils], .struct [(0, 9), (1, 77)], false, none, false, false⟩
       .leaf) 79 ⟨2, true, [.str [], .nils], .struct [(0, 9), (1, 77)], false, none, false, false⟩
      (.node (.node .leaf 80 ⟨1, false, [.nils], .slice 86 6 16, false, none, false, false⟩
        .leaf) 81 ⟨2, true, [.str [], .nils], .struct [(0, 9), (1, 80)], false, none, false, false⟩
       .leaf)))) 82 ⟨2, true, [.str [], .nils], .struct [(0, 9), (1, 80)], false, none, false, false⟩
   (.node (.node (.node (.node (.node .leaf 83 ⟨6, true, [.int .u8 0, .int .u8 0, .int .u8 0, .int .u8 0, .int .u16 0, .int .i64 0], .struct [(0, 25), (5, 3)], true, none, false, false⟩
        .leaf) 84 ⟨6, true, [.int .u8 0, .int .u8 0, .int .u8 0, .int .u8 0, .int .u16 0, .int .i64 0], .struct [(0, 25), (5, 3)], true, none, false, false⟩
       (.node .leaf 85 ⟨6, true, [.int .u8 0, .int .u8 0, .int .u8 0, .int .u8 0, .int .u16 0, .int .i64 0], .struct [(0, 43), (5, 3)], true, none, false, false⟩
        .leaf)) 86 ⟨6, true, [.int .u8 0, .int .u8 0, .int .u8 0, .int .u8 0, .int .u16 0, .int .i64 0], .struct [(0, 43), (5, 3)], true, none, false, false⟩
      (.node (.node .leaf 87 ⟨1, false, [.nilf], .func, false, none, false, false⟩
        .leaf) 88 ⟨1, false, [.nilf], .func, false, none, false, false⟩
       .leaf)) 89 ⟨1, false, [.nilf], .func, false, none, false, false⟩
     (.node (.node (.node .leaf 90 ⟨1, false, [.nilf], .func, false, none, false, false⟩
        .leaf) 91 ⟨1, false, [.nilf], .func, false, none, false, false⟩
       .leaf) 92 ⟨1, false, [.nilf], .func, false, none, false, false⟩
      (.node (.node .leaf 93 ⟨1, false, [.nilf], .func, false, none, false, false⟩
        .leaf) 94 ⟨1, false, [.nils], .slice 5 1 1, false, none, false, false⟩
       .leaf))) 96 ⟨1, false, [.nilf], .func, false, none, false, false⟩
    (.node (.node (.node (.node .leaf 97 ⟨1, false, [.nilf], .func, false, none, false, false⟩
        .leaf) 98 ⟨1, false, [.nilf], .func, false, none, false, false⟩
       (.node .leaf 99 ⟨1, false, [.nilf], .func, false, none, false, false⟩
        .leaf)) 100 ⟨1, false, [.nilf], .func, false, none, false, false⟩
      (.node (.node .leaf 101 ⟨1, false, [.nilf], .func, false, none, false, false⟩
        .leaf) 102 ⟨1, false, [.nilf], .func, false, none, false, false⟩
       .leaf)) 103 ⟨1, false, [.nilf], .func, false, none, false, false⟩
     (.node (.node (.node .leaf 104 ⟨1, false, [.nilf], .func, false, none, false, false⟩
        .leaf) 106 ⟨1, false, [.nilf], .func, false, none, false, false⟩
       .leaf) 107 ⟨1, false, [.nilf], .func, false, none, false, false⟩
      (.node (.node .leaf 108 ⟨1, false, [.nilf], .func, false, none, false, false⟩
        .leaf) 109 ⟨1, false, [.nilf], .func, false, none, false, false⟩
       .leaf)))))) 110 ⟨1, false, [.nilf], .func, false, none, false, false⟩
 (.node (.node (.node (.node (.node (.node (.node .leaf 111 ⟨1, false, [.nilf], .func, false, none, false, false⟩
        .leaf) 112 ⟨1, false, [.nilf], .func, false, none, false, false⟩
       (.node .leaf 113 ⟨1, false, [.nilf], .func, false, none, false, false⟩
        .leaf)) 114 ⟨1, false, [.nilf], .func, false, none, false, false⟩
      (.node (.node .leaf 115 ⟨1, false, [.nils], .slice 117 4 56, false, none, false, false⟩
        .leaf) 116 ⟨4, true, [.int .i64 0, .int .u64 0, .str [], .nils], .struct [(0, 3), (1, 35), (2, 9), (3, 115)], false, none, false, false⟩
       .leaf)) 117 ⟨4, true, [.int .i64 0, .int .u64 0, .str [], .nils], .struct [(0, 3), (1, 35), (2, 9), (3, 115)], false, none, false, false⟩
     (.node (.node (.node .leaf 118 ⟨1, false, [.nilf], .func, false, none, false, false⟩
        .leaf) 119 ⟨1, false, [.nilf], .func, false, none, false, false⟩
       (.node .leaf 120 ⟨1, false, [.nilf], .func, false, none, false, false⟩
        .leaf)) 121 ⟨1, false, [.nilf], .func, false, none, false, false⟩
      (.node (.node .leaf 122 ⟨1, false, [.nilf], .func, false, none, false, false⟩
        .leaf) 123 ⟨1, false, [.nilf], .func, false, none, false, false⟩
       .leaf))) 124 ⟨1, false, [.nilf], .func, false, none, false, false⟩
    (.node (.node (.node (.node .leaf 125 ⟨1, false, [.int .u64 0], .int .u64, false, none, false, false⟩
        .leaf) 126 ⟨1, false, [.nilf], .func, false, none, false, false⟩
       (.node .leaf 127 ⟨1, false, [.nilf], .func, false, none, false, false⟩
        .leaf)) 128 ⟨1, false, [.nilf], .func, false, none, false, false⟩
      (.node (.node .leaf 129 ⟨1, false, [.nilf], .func, false, none, false, false⟩
        .leaf) 130 ⟨1, false, [.nilf], .func, false, none, false, false⟩
       .leaf)) 131 ⟨1, false, [.nilf], .func, false, none, false, false⟩
     (.node (.node (.node .leaf 132 ⟨1, false, [.nilf], .func, false, none, false, false⟩
        .leaf) 133 ⟨1, false, [.nilf], .func, false, none, false, false⟩
       .leaf) 134 ⟨1, false, [.nilf], .func, false, none, false, false⟩
      (.node (.node .leaf 135 ⟨1, false, [.nilp], .ptr, false, some 137, false, false⟩
        .leaf) 136 ⟨2, true, [.nilp, .nils], .struct [(0, 135), (1, 94)], false, none, false, false⟩
       .leaf)))) 137 ⟨2, true, [.nilp, .nils], .struct [(0, 135), (1, 94)], false, none, false, true⟩
   (.node (.node (.node (.node (.node .leaf 138 ⟨1, false, [.nilf], .func, false, none, false, false⟩
        .leaf) 139 ⟨1, false, [.nilf], .func, false, none, false, false⟩
       (.node .leaf 140 ⟨1, false, [.nilf], .func, false, none, false, false⟩
        .leaf)) 141 ⟨1, false, [.nilf], .func, false, none, false, false⟩
      (.node (.node .leaf 142 ⟨1, false, [.nilf], .func, false, none, false, false⟩
        .leaf) 143 ⟨1, false, [.nilf], .func, false, none, false, false⟩
       .leaf)) 144 ⟨1, false, [.nilf], .func, false, none, false, false⟩
     (.node (.node (.node .leaf 145 ⟨1, false, [.nilf], .func, false, none, false, false⟩
        .leaf) 146 ⟨1, false, [.nilf], .func, false, none, false, false⟩
       .leaf) 147 ⟨1, false, [.nilf], .func, false, none, false, false⟩
      (.node (.node .leaf 148 ⟨1, false, [.nilf], .func, false, none, false, false⟩
        .leaf) 150 ⟨1, false, [.nilf], .func, false, none, false, false⟩
       .leaf))) 151 ⟨1, false, [.int .u32 0], .int .u32, false, none, false, false⟩
    (.node (.node (.node (.node .leaf 153 ⟨1, false, [.nilf], .func, false, none, false, false⟩
        .leaf) 155 ⟨1, false, [.nilf], .func, false, none, false, false⟩
       (.node .leaf 156 ⟨1, false, [.nilf], .func, false, none, false, false⟩
        .leaf)) 157 ⟨1, false, [.nilf], .func, false, none, false, false⟩
      (.node (.node .leaf 158 ⟨1, false, [.nilf], .func, false, none, false, false⟩
        .leaf) 159 ⟨1, false, [.nilf], .func, false, none, false, false⟩
       .leaf)) 160 ⟨1, false, [.nilf], .func, false, none, false, false⟩
     (.node (.node (.node .leaf 161 ⟨1, false, [.nili], .iface, false, none, false, false⟩
        .leaf) 162 ⟨1, false, [.nili], .iface, false, none, false, false⟩
       .leaf) 163 ⟨1, false, [.nilf], .func, false, none, false, false⟩
      (.node (.node .leaf 165 ⟨1, false, [.nilf], .func, false, none, false, false⟩
        .leaf) 166 ⟨1, false, [.nilf], .func, false, none, false, false⟩
       .leaf))))) 167 ⟨1, false, [.nilp], .ptr, false, some 5, false, false⟩
  (.node (.node (.node (.node (.node (.node .leaf 168 ⟨1, false, [.nilf], .func, false, none, false, false⟩
        .leaf) 170 ⟨1, false, [.nilf], .func, false, none, false, false⟩
       (.node .leaf 172 ⟨1, false, [.nilf], .func, false, none, false, false⟩
        .leaf)) 173 ⟨1, false, [.nilf], .func, false, none, false, false⟩
      (.node (.node .leaf 174 ⟨1, false, [.nilf], .func, false, none, false, false⟩
        .leaf) 176 ⟨1, false, [.nilf], .func, false, none, false, false⟩
       .leaf)) 177 ⟨1, false, [.nilf], .func, false, none, false, false⟩
     (.node (.node (.node .leaf 179 ⟨2, true, [.int .u8 0, .int .u8 0], .struct [(0, 5), (1, 5)], true, none, false, false⟩
        .leaf) 180 ⟨2, true, [.int .u8 0, .int .u8 0], .struct [(0, 5), (1, 5)], true, none, false, false⟩
       .leaf) 181 ⟨32, true, [.int .u8 0, .int .u8 0, .int .u8 0, .int .u8 0, .int .u8 0, .int .u8 0, .int .u8 0, .int .u8 0, .int .u8 0, .int .u8 0, .int .u8 0, .int .u8 0, .int .u8 0, .int .u8 0, .int .u8 0, .int .u8 0, .int .u8 0, .int .u8 0, .int .u8 0, .int .u8 0, .int .u8 0, .int .u8 0, .int .u8 0, .int .u8 0, .int .u8 0, .int .u8 0, .int .u8 0, .int .u8 0, .int .u8 0, .int .u8 0, .int .u8 0, .int .u8 0], .arr 16 180 2, true, none, false, false⟩
      (.node (.node .leaf 182 ⟨1, false, [.nilp], .other, false, none, true, false⟩
        .leaf) 183 ⟨1, false, [.nilf], .func, false, none, false, false⟩
       .leaf))) 184 ⟨1, false, [.nilf], .func, false, none, false, false⟩
    (.node (.node (.node (.node .leaf 185 ⟨1, false, [.int .i64 0], .int .i64, false, none, false, false⟩
        .leaf) 186 ⟨1, false, [.nilf], .func, false, none, false, false⟩
       (.node .leaf 187 ⟨1, false, [.nilp], .ptr, false, some 198, false, false⟩
        .leaf)) 188 ⟨1, false, [.nilf], .func, false, none, false, false⟩
      (.node (.node .leaf 189 ⟨1, false, [.nilf], .func, false, none, false, false⟩
        .leaf) 190 ⟨1, false, [.nilf], .func, false, none, false, false⟩
       .leaf)) 191 ⟨24, true, [.int .u8 0, .int .u8 0, .int .u8 0, .int .u8 0, .int .u8 0, .int .u8 0, .int .u8 0, .int .u8 0, .int .u8 0, .int .u8 0, .int .u8 0, .int .u8 0, .int .u8 0, .int .u8 0, .int .u8 0, .int .u8 0, .int .u8 0, .int .u8 0, .int .u8 0, .int .u8 0, .int .u8 0, .int .u8 0, .int .u8 0, .int .u8 0], .arr 24 5 1, true, none, false, false⟩
     (.node (.node (.node .leaf 192 ⟨1, false, [.nilf], .func, false, none, false, false⟩
        .leaf) 193 ⟨1, false, [.nilf], .func, false, none, false, false⟩
       .leaf) 195 ⟨1, false, [.nilf], .func, false, none, false, false⟩
      (.node (.node .leaf 196 ⟨1, false, [.nilf], .func, false, none, false, false⟩
        .leaf) 197 ⟨3, true, [.str [], .str [], .nili], .struct [(0, 9), (1, 9), (2, 162)], false, none, false, false⟩
       .leaf)))) 198 ⟨3, true, [.str [], .str [], .nili], .struct [(0, 9), (1, 9), (2, 162)], false, none, false, false⟩
   (.node (.node (.node (.node (.node .leaf 199 ⟨1, false, [.nilf], .func, false, none, false, false⟩
        .leaf) 200 ⟨1, false, [.nilf], .func, false, none, false, false⟩
       (.node .leaf 201 ⟨20, true, [.int .u64 0, .int .u64 0, .int .u64 0, .int .u64 0, .int .u64 0, .int .u64 0, .int .u64 0, .int .u64 0, .int .u64 0, .int .u64 0, .int .u64 0, .int .u64 0, .int .u64 0, .int .u64 0, .int .u64 0, .int .u64 0, .int .u64 0, .int .u64 0, .int .u64 0, .int .u64 0], .arr 20 35 1, true, none, false, false⟩
        .leaf)) 202 ⟨65, true, [.int .u8 0, .int .u8 0, .int .u8 0, .int .u8 0, .int .u8 0, .int .u8 0, .int .u8 0, .int .u8 0, .int .u8 0, .int .u8 0, .int .u8 0, .int .u8 0, .int .u8 0, .int .u8 0, .int .u8 0, .int .u8 0, .int .u8 0, .int .u8 0, .int .u8 0, .int .u8 0, .int .u8 0, .int .u8 0, .int .u8 0, .int .u8 0, .int .u8 0, .int .u8 0, .int .u8 0, .int .u8 0, .int .u8 0, .int .u8 0, .int .u8 0, .int .u8 0, .int .u8 0, .int .u8 0, .int .u8 0, .int .u8 0, .int .u8 0, .int .u8 0, .int .u8 0, .int .u8 0, .int .u8 0, .int .u8 0, .int .u8 0, .int .u8 0, .int .u8 0, .int .u8 0, .int .u8 0, .int .u8 0, .int .u8 0, .int .u8 0, .int .u8 0, .int .u8 0, .int .u8 0, .int .u8 0, .int .u8 0, .int .u8 0, .int .u8 0, .int .u8 0, .int .u8 0, .int .u8 0, .int .u8 0, .int .u8 0, .int .u8 0, .int .u8 0, .int .u8 0], .arr 65 5 1, true, none, false, false⟩
      (.node (.node .leaf 203 ⟨1, false, [.nilf], .func, false, none, false, false⟩
        .leaf) 204 ⟨1, false, [.nilf], .func, false, none, false, false⟩
       .leaf)) 205 ⟨1, false, [.nilp], .ptr, false, some 207, false, false⟩
     (.node (.node (.node .leaf 206 ⟨1, true, [.str []], .struct [(0, 9)], true, none, false, false⟩
        .leaf) 207 ⟨1, true, [.str []], .struct [(0, 9)], true, none, false, false⟩
       .leaf) 208 ⟨1, false, [.nilf], .func, false, none, false, false⟩
      (.node (.node .leaf 209 ⟨1, false, [.nilf], .func, false, none, false, false⟩
        .leaf) 210 ⟨32, true, [.int .u8 0, .int .u8 0, .int .u8 0, .int .u8 0, .int .u8 0, .int .u8 0, .int .u8 0, .int .u8 0, .int .u8 0, .int .u8 0, .int .u8 0, .int .u8 0, .int .u8 0, .int .u8 0, .int .u8 0, .int .u8 0, .int .u8 0, .int .u8 0, .int .u8 0, .int .u8 0, .int .u8 0, .int .u8 0, .int .u8 0, .int .u8 0, .int .u8 0, .int .u8 0, .int .u8 0, .int .u8 0, .int .u8 0, .int .u8 0, .int .u8 0, .int .u8 0], .arr 32 5 1, true, none, false, false⟩
       .leaf))) 211 ⟨64, true, [.int .u8 0, .int .u8 0, .int .u8 0, .int .u8 0, .int .u8 0, .int .u8 0, .int .u8 0, .int .u8 0, .int .u8 0, .int .u8 0, .int .u8 0, .int .u8 0, .int .u8 0, .int .u8 0, .int .u8 0, .int .u8 0, .int .u8 0, .int .u8 0, .int .u8 0, .int .u8 0, .int .u8 0, .int .u8 0, .int .u8 0, .int .u8 0, .int .u8 0, .int .u8 0, .int .u8 0, .int .u8 0, .int .u8 0, .int .u8 0, .int .u8 0, .int .u8 0, .int .u8 0, .int .u8 0, .int .u8 0, .int .u8 0, .int .u8 0, .int .u8 0, .int .u8 0, .int .u8 0, .int .u8 0, .int .u8 0, .int .u8 0, .int .u8 0, .int .u8 0, .int .u8 0, .int .u8 0, .int .u8 0, .int .u8 0, .int .u8 0, .int .u8 0, .int .u8 0, .int .u8 0, .int .u8 0, .int .u8 0, .int .u8 0, .int .u8 0, .int .u8 0, .int .u8 0, .int .u8 0, .int .u8 0, .int .u8 0, .int .u8 0, .int .u8 0], .arr 64 5 1, true, none, false, false⟩
    (.node (.node (.node (.node .leaf 212 ⟨4, true, [.nilp, .nilp, .nilp, .str []], .struct [(0, 17), (1, 17), (2, 17), (3, 9)], false, none, false, false⟩
        .leaf) 213 ⟨4, true, [.nilp, .nilp, .nilp, .str []], .struct [(0, 17), (1, 17), (2, 17), (3, 9)], false, none, false, false⟩
       (.node .leaf 214 ⟨0, true, [], .arr 0 16 1, false, none, false, false⟩
        .leaf)) 215 ⟨0, true, [], .struct [(0, 214)], false, none, false, false⟩
      (.node (.node .leaf 216 ⟨0, true, [], .struct [(0, 214)], false, none, false, false⟩
        .leaf) 217 ⟨1, false, [.int .u8 0], .int .u8, false, none, false, false⟩
       .leaf)) 218 ⟨1, false, [.int .u8 0], .int .u8, false, none, false, false⟩
     (.node (.node (.node .leaf 219 ⟨1, false, [.nilf], .func, false, none, false, false⟩
        .leaf) 220 ⟨1, false, [.int .i32 0], .int .i32, false, none, false, false⟩
       .leaf) 221 ⟨1, false, [.int .i32 0], .int .i32, false, none, false, false⟩
      (.node (.node .leaf 222 ⟨11, true, [.int .u64 0, .int .u64 0, .int .u32 0, .int .u8 0, .int .u8 0, .int .u8 0, .int .u8 0, .nilf, .nilp, .int .i32 0, .int .i32 0], .struct [(0, 12), (1, 12), (2, 151), (3, 217), (4, 5), (5, 5), (6, 218), (7, 219), (8, 167), (9, 220), (10, 221)], false, none, false, false⟩
        .leaf) 223 ⟨11, true, [.int .u64 0, .int .u64 0, .int .u32 0, .int .u8 0, .int .u8 0, .int .u8 0, .int .u8 0, .nilf, .nilp, .int .i32 0, .int .i32 0], .struct [(0, 12), (1, 12), (2, 151), (3, 217), (4, 5), (5, 5), (6, 218), (7, 219), (8, 167), (9, 220), (10, 221)], false, none, false, false⟩
       .leaf)))))))
theorem zac : zbw Tryz.prog tt := yn4 (by kernel_rfl)
end Sy
end Go.Proofs.YtogpolfhcbgcbaaGreatDoor
