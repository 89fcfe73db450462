/-The symbolic executor: slices of slices and of ykg. The symbolic executor: built values, new blocks. The symbolic executor: values that are handed on (their blocks are frozen), new blocks; and what stands between these and the texts behind.-/
import Derived.Test.YtfonekpmkdkgnaaGreatDoorM1
import Derived.Laws.Tables
import Derived.Laws.MakeOwn
namespace Go.Proofs.YtfonekpmkdkgnaaGreatDoor
namespace Sy
open Go Go.RowKit
set_option linter.unusedSimpArgs false
set_option linter.unusedVariables false
def zf4 (a : Act) : Option Operand -> Option Int -> Prop
 | none, none => True
 | some x, some i => ∃ k, a.eval x = .int k i
 | _, _ => False
theorem zdo {P : Program} {w : World} {a : Act} (isS : Bool) (len cap : Nat) {lo hi : Option Operand} {p q : Option Int} (h1 : zf4 a lo p) (h2 : zf4 a hi q)
   (l r : Nat) (hl : (p.getD 0) = (l : Int)) (hr : (q.getD len) = (r : Int)) (hlr : l <= r) (hrc : r <= cap) :
   (Instr.sliceBounds isS len cap (lo.map a.eval) (hi.map a.eval) none).run P w = .ok (l, r, cap) w := by
 unfold Instr.sliceBounds
 cases lo with
 | none =>
   cases p with
   | some _ => exact h1.elim
   | none =>
     cases hi with
     | none =>
       cases q with
       | some _ => exact h2.elim
       | none => simp at hl hr; simp; omega
     | some y =>
       cases q with
       | none => exact h2.elim
       | some j =>
         obtain ⟨k, e⟩ := h2
         simp at hl hr
         subst hr
         simp [e, Instr.sliceBound, asIntOf, hrc]
         omega
 | some x =>
   cases p with
   | none => exact h1.elim
   | some i =>
     obtain ⟨k, e⟩ := h1
     simp at hl
     subst hl
     cases hi with
     | none =>
       cases q with
       | some _ => exact h2.elim
       | none =>
         simp at hr
         obtain rfl : len = r := by omega
         simp [e, Instr.sliceBound, asIntOf, hlr]
     | some y =>
       cases q with
       | none => exact h2.elim
       | some j =>
         obtain ⟨k', e'⟩ := h2
         simp at hr
         subst hr
         simp [e, e', Instr.sliceBound, asIntOf, hrc, hlr]
section
variable {P : Program} {T : TT} {base : Nat} {M : Two} {W : World} {nt : Nat} {f : Nat -> Option AV} {g : Nat -> Option Ob} {c : Nat -> Bool} {a : Act} {w : World} {D : Nat -> Prop} {μ : Mu} {o : Oper}
theorem yp6 {lo hi m : Option Operand} {vs : List AV} {p q : Option Int} (e : two vs lo.isSome hi.isSome m.isSome = some (p, q)) (hv : Ops w.heap D μ a (lo.toList ++ (hi.toList ++ m.toList)) vs) :
   m = none /\ zf4 a lo p /\ zf4 a hi q := by
 cases m with
 | some _ => cases lo <;> cases hi <;> simp [two] at e
 | none =>
   refine ⟨rfl, ?_⟩
   cases lo with
   | none =>
     cases hi with
     | none => simp [two] at e; obtain ⟨rfl, rfl⟩ := e; exact ⟨trivial, trivial⟩
     | some y =>
       simp only [two, Option.isSome] at e
       split at e
       · cases e
         exact ⟨trivial, _, hv.1.inv_int⟩
       · cases e
   | some x =>
     cases hi with
     | none =>
       simp only [two, Option.isSome] at e
       split at e
       · cases e
         exact ⟨⟨_, hv.1.inv_int⟩, trivial⟩
       · cases e
     | some y =>
       simp only [two, Option.isSome] at e
       split at e
       · cases e
         exact ⟨⟨_, hv.1.inv_int⟩, _, hv.2.1.inv_int⟩
       · cases e
theorem zhr {n : Int} {p q : Option Int} (hn : 0 <= n) (h : znp std n p q = true) :
   ∃ l r : Nat, (p.getD 0) = (l : Int) /\ (q.getD n) = (r : Int) /\ l <= r /\ (r : Int) <= n /\ (∀ off, yn8 std off p = off + l) /\ (∀ n' : Nat, n = n' -> zsr std n' p q = r - l) /\
     (∀ s : List UInt8, n = s.length -> yot std s p q = (s.take r).drop l) /\ (∀ get i j, yex std get p i j = get (l + i) j) := by
 cases p with
 | none =>
   cases q with
   | none => exact ⟨0, n.toNat, rfl, by simp; omega, by omega, by omega, fun off => rfl, fun n' e => by simp [zsr]; omega, fun s e => by simp [yot]; rw [List.take_of_length_le (by omega)], fun get i j => by simp [yex]⟩
   | some b =>
     have h' : 0 <= b /\ b <= n := by simpa [znp, L2, std, inC] using h
     exact ⟨0, b.toNat, rfl, by simp; omega, by omega, by omega, fun off => rfl, fun n' e => by simp [zsr, std], fun s e => by simp [yot, L2, std], fun get i j => by simp [yex]⟩
 | some l =>
   cases q with
   | none =>
     have h' : 0 <= l /\ l <= n := by simpa [znp, L2, std, inC] using h
     exact ⟨l.toNat, n.toNat, by simp; omega, by simp; omega, by omega, by omega, fun off => rfl, fun n' e => by simp [zsr, L2, std]; omega, fun s e => by
       simp [yot, L2, std]; rw [List.take_of_length_le (by omega)], fun get i j => rfl⟩
   | some b =>
     have h' : (0 <= l /\ l <= b) /\ b <= n := by simpa [znp, L3, std, inS] using h
     exact ⟨l.toNat, b.toNat, by simp; omega, by simp; omega, by omega, by omega, fun off => rfl, fun n' e => by simp [zsr, L2, std], fun s e => by simp [yot, L3, std, ytg], fun get i j => rfl⟩
variable (h : Sim base M W nt f g c a w D μ) (hd : ∀ d, o.dst = some d -> d < nt)
include h hd
theorem zx2 (hT : zbw P T) {t : TypeId} {x : Operand} {lo hi m : Option Operand} (e : o.op = .slice t x lo hi m) {vals : List AV} (hv : Ops w.heap D μ a (x :: (lo.toList ++ (hi.toList ++ m.toList))) vals)
   {ob : Nat -> Option Ob} (hob : ∀ id z, ob id = some z -> g id = some z) :
   zcg P base M W nt f g c o a w (ydv T std t ob lo.isSome hi.isSome m.isSome vals) := by
 match vals, hv with
 | v :: vs, ⟨hx, hv⟩ =>
   unfold ydv
   simp only
   split
   · rename_i ti hti
     split
     · rename_i p q htwo
       obtain ⟨rfl, hb1, hb2⟩ := yp6 htwo hv
       have run : ∀ u, (Instr.sliceAt t (a.eval x) (lo.map a.eval) (hi.map a.eval) none).run P w = .ok u w -> (execOp a.eval o).run P w = .ok (.value u) w := by
         intro u hu; unfold execOp; rw [e]; simp [hu]
       generalize a.eval x = u at *
       have ok := (hT t ti hti).k
       split
       · rename_i n e' esz id off hk
         rw [hk] at ok
         obtain ⟨ok1, ok2⟩ := ok
         obtain ⟨ei, hei, hes⟩ := Option.map_eq_some_iff.1 ok2
         have hso : (sizeOf e').run P w = .ok esz w := by simp [sizeOf, typeInfo, program, Sem.run, hei, hes]
         split
         · rename_i ty sz n' get hg
           have hg := hob _ _ hg
           split
           · rename_i hsz hnn
             obtain rfl := za1 hsz
             obtain rfl := za1 hnn
             intro hb
             obtain ⟨l, r, e1, e2, e3, e4, e5, e6, _, e7⟩ := zhr (n := (n' : Int)) (by omega) hb
             cases hx with
             | ref _ _ b z m hμ =>
               obtain ⟨hm, C, t', fr, hh, hcs, _, hle, hrow⟩ := h.obs id _ _ hg hμ
               subst hm
               have hbr := zdo (P := P) (w := w) false n' n' hb1 hb2 l r e1 e2 e3 (by omega)
               have h1 : (Instr.sliceAt t (.pointer (some ⟨b, 0, none⟩)) (lo.map a.eval) (hi.map a.eval) none).run P w = .ok (.slice (some (if n' = l then ⟨b, 0, none⟩ else (⟨b, 0, none⟩ : Addr).add (l * esz))) (r - l) (n' - l)) w := by
                 simp [Instr.sliceAt, Instr.sureAddr, run_underlying ok1, hbr, hso]
               rw [show zsr (fun {α β} => std) n' p q = r - l from e6 n' rfl, show yn8 (fun {α β} => std) 0 p = 0 + l from e5 0, Nat.zero_add]
               by_cases hcl : n' = l
               · subst hcl
                 rw [if_pos rfl] at h1
                 have h0 : r - n' = 0 := by omega
                 rw [h0, Nat.sub_self] at h1
                 rw [h0]
                 exact za0 h hd (run _ h1) (.sl0 _ _ _ b z n' _ hμ (Nat.le_refl _))
               · rw [if_neg hcl, zba, Nat.zero_add] at h1
                 refine za0 h hd (run _ h1) (.sl _ _ _ _ b z n' _ hμ (by omega) (by rw [show l + (n' - l) = n' by omega]; exact hle) (by omega))
           · trivial
         · rename_i ty cs hg
           have hg := hob _ _ hg
           split
           · rename_i hsz hle hfr
             obtain rfl := za1 hsz
             have hle := zb3 hle
             rw [zai] at hle
             intro hb
             obtain ⟨l, r, e1, e2, e3, e4, e5, e6, _, e7⟩ := zhr (n := (n : Int)) (by omega) hb
             cases hx with
             | ref _ _ b z m hμ =>
               obtain ⟨C, t', fr, hh, hcs, _, h1c, hl, hr⟩ := h.obs id _ _ hg hμ
               have hbr := zdo (P := P) (w := w) false n n hb1 hb2 l r e1 e2 e3 (by omega)
               have h1 : (Instr.sliceAt t (.pointer (some ⟨b, off, none⟩)) (lo.map a.eval) (hi.map a.eval) none).run P w = .ok (.slice (some (if n = l then ⟨b, off, none⟩ else (⟨b, off, none⟩ : Addr).add (l * 1))) (r - l) (n - l)) w := by
                 simp [Instr.sliceAt, Instr.sureAddr, run_underlying ok1, hbr, hso]
               have h' := h.freeze [id] (fun i hi => by simp at hi; subst hi; exact ⟨_, hg, by simp⟩)
               have hcell : ∀ k, k < n -> ∃ v, C[off + k]? = some v /\ one v /\ R w.heap D zam (zjy std (zcx (zda cs off) n) 1 k 0) v := by
                 intro k hk
                 have hx := zf9 (cs := zcx (zda cs off) n) (sz := 1) (n := n) (by rw [zaz, zbf]; simp; omega) (i := k) (j := 0) hk (by omega)
                 have hf := zck hfr _ _ hx
                 rw [zaz, zbf, List.getElem?_take, if_pos (by omega), List.getElem?_drop, Nat.mul_one, Nat.add_zero] at hx
                 have hlt : off + k < C.size := by rw [<- hl]; exact (List.getElem?_eq_some_iff.1 hx).1
                 rw [zaz, zbf] at hf |-
                 exact ⟨_, getD_some hlt, h1c _ _ (getD_some hlt), zdb (hr _ _ _ hx (getD_some hlt)) hf⟩
               intro K Q hK
               unfold Oper.wp
               rw [run _ h1]
               refine hK _ _ ⟨_, _, h'.put hd ?_⟩
               rw [show zsr (fun {α β} => std) n p q = r - l from e6 n rfl]
               by_cases h0 : r - l = 0
               · rw [h0]
                 exact .lst0 _ _ _ _ (fun h => by cases h)
               · rw [if_neg (by omega), zba, Nat.mul_one]
                 refine .lst 1 (r - l) _ b (off + l) (n - l) (fun i j => C.getD (off + l + i * 1 + j) undef) (.inr ⟨id, z, m, by simp, hμ⟩) (by omega) (fun i j hi hj => ?_) (fun i j hi hj => ?_) (fun i j hi hj => ?_)
                 all_goals
                   have hj0 : j = 0 := by omega
                   subst hj0
                   obtain ⟨v, v1, v2, v3⟩ := hcell (l + i) (by omega)
                   have ev : C.getD (off + l + i * 1 + 0) undef = v := by
                     rw [show off + l + i * 1 + 0 = off + (l + i) by omega, Array.getD_eq_getD_getElem?, v1]; rfl
                 · rw [zb9 hh]
                   show _ = some (C.getD (off + l + i * 1 + 0) undef)
                   rw [ev, show off + l + i * 1 + 0 = off + (l + i) by omega, v1]
                 · show one (C.getD (off + l + i * 1 + 0) undef)
                   rw [ev]; exact v2
                 · show R _ _ _ _ (C.getD (off + l + i * 1 + 0) undef)
                   rw [ev, e7]
                   exact v3.mono (fun _ _ => rfl) (fun _ h => .inl h) (fun _ _ h => h)
           · trivial
         · trivial
       · rename_i s hk
         rw [hk] at ok
         intro hb
         obtain ⟨s', rfl, rfl⟩ := hx.inv_str
         obtain ⟨l, r, e1, e2, e3, e4, _, _, e5, _⟩ := zhr (n := std slen s'.data.toList) (by simp [std, slen]) hb
         have hsz : (std slen s'.data.toList : Int) = s'.size := by simp [std, slen]
         rw [hsz] at e2 e4
         refine za0 h hd (u := .string (s'.extract l r)) (run _ ?_) ?_
         · have hbr := zdo (P := P) (w := w) false s'.size s'.size hb1 hb2 l r e1 e2 e3 (by omega)
           simp [Instr.sliceAt, Instr.slice, run_underlying ok, hbr]
         · rw [e5 _ (by rw [hsz]; simp)]
           exact .str _ _ (by
             simp [List.take_drop, List.extract_eq_take_drop]
             try rw [show l + (r - l) = r by omega])
       · rename_i e' esz eb sz n get hk
         rw [hk] at ok
         obtain ⟨ok1, ok2⟩ := ok
         obtain ⟨ei, hei, hes⟩ := Option.map_eq_some_iff.1 ok2
         simp only [Prod.mk.injEq] at hes
         have hso : (sizeOf e').run P w = .ok esz w := by simp [sizeOf, typeInfo, program, Sem.run, hei, hes.1]
         split
         · rename_i hsz
           obtain rfl := za1 hsz
           intro hb
           obtain ⟨l, r, e1, e2, e3, e4, e5, e6, _, e7⟩ := zhr (n := (n : Int)) (by omega) hb
           have go : ∀ ad cap, n <= cap -> u = .slice ad n cap -> (Instr.sliceAt t u (lo.map a.eval) (hi.map a.eval) none).run P w = .ok (.slice (if cap = l then ad else ad.map (·.add (l * esz))) (r - l) (cap - l)) w := by
             rintro ad cap hc rfl
             have hbr := zdo (P := P) (w := w) true n cap hb1 hb2 l r e1 e2 e3 (by omega)
             simp [Instr.sliceAt, Instr.slice, run_underlying ok1, hbr, hso]
           have hN : zsr std n p q = r - l := e6 n rfl
           rw [show zsr (fun {α β} => std) n p q = r - l from hN]
           cases hx with
           | lst0 _ _ ad cap hn =>
             have h0 : r - l = 0 := by omega
             have h1 := go ad cap (by omega) rfl
             rw [h0] at h1 |-
             exact za0 h hd (run _ h1) (.lst0 _ _ _ _ (fun h => by
               have h2 : ad = none := by
                 cases ad with
                 | none => rfl
                 | some _ => split at h <;> cases h
               have := hn h2; omega))
           | lst _ _ _ b o' cap vs hD hc hv hone hr =>
             have h1 := go _ cap hc rfl
             by_cases h0 : r - l = 0
             · rw [h0] at h1 |-
               exact za0 h hd (run _ h1) (.lst0 _ _ _ _ (fun h => by split at h <;> cases h))
             · rw [if_neg (by omega)] at h1
               simp only [Option.map_some, zba] at h1
               refine za0 h hd (run _ h1) (.lst _ _ _ b _ _ (fun i j => vs (l + i) j) hD (by omega) (fun i j hi hj => ?_) (fun i j hi hj => hone _ _ (by omega) hj) (fun i j hi hj => ?_))
               · have := hv (l + i) j (by omega) hj
                 rw [Nat.add_mul] at this
                 rw [show o' + l * esz + i * esz + j = o' + (l * esz + i * esz) + j by omega]
                 exact this
               · rw [show yex (fun {α β} => std) get p i j = get (l + i) j from e7 get i j]
                 exact hr _ _ (by omega) hj
         · trivial
       · rename_i e' esz eb id sz off n hk
         rw [hk] at ok
         obtain ⟨ok1, ok2⟩ := ok
         obtain ⟨ei, hei, hes⟩ := Option.map_eq_some_iff.1 ok2
         simp only [Prod.mk.injEq] at hes
         have hso : (sizeOf e').run P w = .ok esz w := by simp [sizeOf, typeInfo, program, Sem.run, hei, hes.1]
         split
         · rename_i hsz
           obtain rfl := za1 hsz
           intro hb
           obtain ⟨l, r, e1, e2, e3, e4, e5, e6, _, e7⟩ := zhr (n := (n : Int)) (by omega) hb
           have go : ∀ ad cap, n <= cap -> u = .slice ad n cap -> (Instr.sliceAt t u (lo.map a.eval) (hi.map a.eval) none).run P w = .ok (.slice (if cap = l then ad else ad.map (·.add (l * esz))) (r - l) (cap - l)) w := by
             rintro ad cap hc rfl
             have hbr := zdo (P := P) (w := w) true n cap hb1 hb2 l r e1 e2 e3 (by omega)
             simp [Instr.sliceAt, Instr.slice, run_underlying ok1, hbr, hso]
           rw [show zsr (fun {α β} => std) n p q = r - l from e6 n rfl, show yn8 (fun {α β} => std) off p = off + l from e5 off]
           cases hx with
           | slv _ _ ad hμ =>
             have h1 := go ad 0 (by omega) rfl
             obtain rfl : l = 0 := by omega
             obtain rfl : r = 0 := by omega
             exact za0 h hd (run _ h1) (.slv _ _ _ hμ)
           | sl0 _ _ _ b z m o' hμ ho =>
             have h1 := go _ 0 (by omega) rfl
             obtain rfl : l = 0 := by omega
             obtain rfl : r = 0 := by omega
             exact za0 h hd (run _ h1) (.sl0 _ _ _ b z m _ hμ ho)
           | sl _ _ _ _ b z m cap hμ hn hz ho =>
             have h1 := go _ cap hn rfl
             by_cases hcl : cap = l
             · subst hcl
               rw [if_pos rfl] at h1
               have h0 : r - cap = 0 := by omega
               rw [h0, Nat.sub_self] at h1
               rw [h0]
               exact za0 h hd (run _ h1) (.sl0 _ _ _ b z m _ hμ (by omega))
             · rw [if_neg hcl] at h1
               simp only [Option.map_some, zba] at h1
               rw [<- Nat.add_mul] at h1
               exact za0 h hd (run _ h1) (.sl _ _ _ _ b z m _ hμ (by omega) (by rw [show off + l + (cap - l) = off + cap by omega]; exact hz) (by omega))
         · trivial
       · rename_i e' esz eb p' k' sz off n hk
         rw [hk] at ok
         obtain ⟨ok1, ok2⟩ := ok
         obtain ⟨ei, hei, hes⟩ := Option.map_eq_some_iff.1 ok2
         simp only [Prod.mk.injEq] at hes
         have hso : (sizeOf e').run P w = .ok esz w := by simp [sizeOf, typeInfo, program, Sem.run, hei, hes.1]
         split
         · rename_i hsz
           obtain rfl := za1 hsz
           intro hb
           obtain ⟨l, r, e1, e2, e3, e4, e5, e6, _, e7⟩ := zhr (n := (n : Int)) (by omega) hb
           have go : ∀ ad cap, n <= cap -> u = .slice ad n cap -> (Instr.sliceAt t u (lo.map a.eval) (hi.map a.eval) none).run P w = .ok (.slice (if cap = l then ad else ad.map (·.add (l * esz))) (r - l) (cap - l)) w := by
             rintro ad cap hc rfl
             have hbr := zdo (P := P) (w := w) true n cap hb1 hb2 l r e1 e2 e3 (by omega)
             simp [Instr.sliceAt, Instr.slice, run_underlying ok1, hbr, hso]
           rw [show zsr (fun {α β} => std) n p q = r - l from e6 n rfl, show yn8 (fun {α β} => std) off p = off + l from e5 off]
           cases hx with
           | aslv _ _ _ ad hμ =>
             have h1 := go ad 0 (by omega) rfl
             obtain rfl : l = 0 := by omega
             obtain rfl : r = 0 := by omega
             exact za0 h hd (run _ h1) (.aslv _ _ _ _ hμ)
           | asl0 _ _ _ _ b z m o' hμ ho =>
             have h1 := go _ 0 (by omega) rfl
             obtain rfl : l = 0 := by omega
             obtain rfl : r = 0 := by omega
             exact za0 h hd (run _ h1) (.asl0 _ _ _ _ b z m _ hμ ho)
           | asl _ _ _ _ _ b z m cap hμ hn hz ho =>
             have h1 := go _ cap hn rfl
             by_cases hcl : cap = l
             · subst hcl
               rw [if_pos rfl] at h1
               have h0 : r - cap = 0 := by omega
               rw [h0, Nat.sub_self] at h1
               rw [h0]
               exact za0 h hd (run _ h1) (.asl0 _ _ _ _ b z m _ hμ (by omega))
             · rw [if_neg hcl] at h1
               simp only [Option.map_some, zba] at h1
               rw [<- Nat.add_mul] at h1
               exact za0 h hd (run _ h1) (.asl _ _ _ _ _ b z m _ hμ (by omega) (by rw [show off + l + (cap - l) = off + cap by omega]; exact hz) (by omega))
         · trivial
       · trivial
     · trivial
   · trivial
end
end Sy
end Go.Proofs.YtfonekpmkdkgnaaGreatDoor
namespace Go.Proofs.YtfonekpmkdkgnaaGreatDoor
namespace Sy
open Go Go.RowKit
set_option linter.unusedSimpArgs false
set_option linter.unusedVariables false
def zb1 (C : Array Value) : Nat -> List Value -> Array Value
 | _, [] => C
 | n, x :: xs => zb1 (C.setIfInBounds n x) (n + 1) xs
theorem zmn (off : Nat) : ∀ (l : List Value) (k : Nat) (C : Array Value), (l.zipIdx k).foldl (fun cs (p : Value × Nat) => cs.setIfInBounds (off + p.2) p.1) C = zb1 C (off + k) l
 | [], k, C => rfl
 | x :: xs, k, C => by
   simp only [List.zipIdx_cons, List.foldl_cons, zb1]
   rw [zmn off xs (k + 1)]
   rfl
theorem zrt (off : Nat) (X C : Array Value) : X.zipIdx.foldl (fun cs (c, j) => cs.setIfInBounds (off + j) c) C = zb1 C off X.toList := by
 have := zmn off X.toList 0 C
 rw [Nat.add_zero] at this
 rw [<- this, <- Array.foldl_toList]
 congr 1
 simp
theorem zap : ∀ (l : List Value) (n : Nat) (C : Array Value), (zb1 C n l).size = C.size
 | [], n, C => rfl
 | x :: xs, n, C => by simp [zb1, zap xs]
section
variable {h : Array Obj} {D : Nat -> Prop} {μ : Mu}
theorem RL.set {xs : List AV} {C : Array Value} (r : RL h D μ xs C) {x : AV} {v : Value} (rx : R h D μ x v) (n : Nat) : RL h D μ (yol x xs n) (C.setIfInBounds n v) := by
 refine ⟨by rw [zm8]; simpa using r.1, fun i y u hy hu => ?_⟩
 rw [zm8, List.getElem?_set] at hy
 rw [Array.getElem?_setIfInBounds] at hu
 by_cases e : n = i
 · rw [if_pos e] at hy hu
   split at hy
   · split at hu
     · cases hy; cases hu; exact rx
     · cases hu
   · cases hy
 · rw [if_neg e] at hy hu
   exact r.2 i y u hy hu
theorem ones.set {C : Array Value} (r : ones C) {v : Value} (h1 : one v) (n : Nat) : ones (C.setIfInBounds n v) := by
 intro i u hu
 rw [Array.getElem?_setIfInBounds] at hu
 split at hu
 · split at hu
   · cases hu; exact h1
   · cases hu
 · exact r i u hu
def RLL (h : Array Obj) (D : Nat -> Prop) (μ : Mu) : List AV -> List Value -> Prop
 | [], [] => True
 | x :: xs, v :: vs => (R h D μ x v /\ one v) /\ RLL h D μ xs vs
 | _, _ => False
theorem RLL.len : ∀ {xs : List AV} {vs : List Value}, RLL h D μ xs vs -> xs.length = vs.length
 | [], [], _ => rfl
 | _ :: _, _ :: _, r => by simp [RLL.len r.2]
theorem RLL.of : ∀ {xs : List AV} {vs : List Value}, xs.length = vs.length -> (∀ (i : Nat) x v, xs[i]? = some x -> vs[i]? = some v -> R h D μ x v) -> (∀ v ∈ vs, one v) -> RLL h D μ xs vs
 | [], [], _, _, _ => trivial
 | x :: xs, v :: vs, e, r, h1 => ⟨⟨r 0 x v rfl rfl, h1 v (by simp)⟩, RLL.of (by simpa using e) (fun i y u hy hu => r (i + 1) y u (by simpa using hy) (by simpa using hu)) (fun u hu => h1 u (by simp [hu]))⟩
theorem RLL.get : ∀ {xs : List AV} {vs : List Value}, RLL h D μ xs vs -> ∀ (i : Nat) x v, xs[i]? = some x -> vs[i]? = some v -> R h D μ x v /\ one v
 | x :: xs, v :: vs, r, 0, y, u, hy, hu => by simp at hy hu; subst hy; subst hu; exact r.1
 | x :: xs, v :: vs, r, i + 1, y, u, hy, hu => RLL.get r.2 i y u (by simpa using hy) (by simpa using hu)
theorem zos : ∀ {ys : List AV} {vs : List Value} {xs : List AV} {C : Array Value} (n : Nat), RL h D μ xs C -> ones C -> RLL h D μ ys vs -> RL h D μ (zh0 xs n ys) (zb1 C n vs) /\ ones (zb1 C n vs)
 | [], [], xs, C, n, r, h1, _ => ⟨r, h1⟩
 | y :: ys, v :: vs, xs, C, n, r, h1, hr => zos (n + 1) (r.set hr.1.1 n) (h1.set hr.1.2 n) hr.2
theorem zjf {x : AV} {v : Value} (r : R h D μ x v) (hs : zkm x = true) : RLL h D μ x.cells v.cells.toList := by
 cases r with
 | agg cs vs e h1 hr => exact RLL.of (xs := cs) (vs := vs.toList) (by simpa using e) (fun i y u hy hu => hr i y u hy (by simpa using hu)) (fun u hu => by
     obtain ⟨i, hi⟩ := List.getElem?_of_mem hu
     exact h1 i u (by simpa using hi))
 | arr n get vs e h1 hr =>
   have k1 : (zn8 get 0 n).length = vs.toList.length := by rw [zhj, e]; simp
   have k2 : ∀ (i : Nat) x v, (zn8 get 0 n)[i]? = some x -> vs.toList[i]? = some v -> R h D μ x v := by
     intro i y u hy hu
     rw [zez] at hy
     split at hy
     · cases hy
       rw [Nat.zero_add]
       exact (hr i u (by simpa using hu)).free
     · cases hy
   have k3 : ∀ v ∈ vs.toList, one v := by
     intro u hu
     obtain ⟨i, hi⟩ := List.getElem?_of_mem hu
     exact h1 i u (by simpa using hi)
   exact RLL.of k1 k2 k3
 | dead => cases hs
 | tup => cases hs
 | _ => exact ⟨⟨by first | exact R.bool _ | exact R.int _ _ | exact R.str _ _ ‹_› | exact R.nilp | exact R.nilm | exact R.nilf | exact R.nils | exact R.nili | exact R.ifn | exact R.ifs _ _ | exact R.emp _ _ | exact R.emz _ | exact R.lst0 _ _ _ _ ‹_› | (constructor <;> assumption), rfl⟩, trivial⟩
def yeo (h : Array Obj) (D : Nat -> Prop) (μ : Mu) (a : Act) : List (Nat × Operand) -> List AV -> Prop
 | [], [] => True
 | p :: ps, v :: vs => R h D μ v (a.eval p.2) /\ yeo h D μ a ps vs
 | _, _ => False
theorem zlb {a : Act} {pl : Nat -> Option (Nat × Nat)} : ∀ (ps : List (Nat × Operand)) (vals : List AV) (cells : List AV) (C : Array Value) (cs : List AV), zrx pl cells ps vals = some cs -> zfv vals = true -> yeo h D μ a ps vals ->
   RL h D μ cells C -> ones C -> ∃ C', Instr.fill pl C (ps.map fun p => (p.1, a.eval p.2)) = some C' /\ RL h D μ cs C' /\ ones C'
 | [], [], cells, C, cs, e, _, _, r, h1 => by
   cases e
   exact ⟨C, rfl, r, h1⟩
 | [], _ :: _, _, _, _, e, _, _, _, _ => by cases e
 | (i, p) :: ps, [], _, _, _, e, _, _, _, _ => by cases e
 | (i, p) :: ps, v :: vs, cells, C, cs, e, hs, hp, r, h1 => by
   simp only [zrx] at e
   split at e
   · rename_i off size hpl
     split at e
     · rename_i hsz
       have hsz := za1 hsz
       split at e
       · rename_i hle
         have hle := zb3 hle
         simp only [zfv] at hs
         split at hs
         · rename_i hv
           have rc := zjf hp.1 hv
           have hlen := rc.len
           rw [zai] at hsz hle
           obtain ⟨w1, w2⟩ := zos off r h1 rc
           obtain ⟨C', f1, f2, f3⟩ := zlb ps vs _ _ cs e hs hp.2 w1 w2
           refine ⟨C', ?_, f2, f3⟩
           simp only [List.map_cons, Instr.fill, hpl]
           have hcs : (a.eval p).cells.size = size := by rw [<- hsz, hlen]; simp
           have : ¬ ((a.eval p).cells.size ≠ size \/ off + (a.eval p).cells.size > C.size) := by
             rw [<- r.1]; omega
           simp only [Bool.or_eq_true, decide_eq_true_eq, this, if_false]
           rw [zrt]
           exact f1
         · cases hs
       · cases e
     · cases e
   · cases e
end
section
variable {P : Program} {T : TT} {base : Nat} {M : Two} {W : World} {nt : Nat} {f : Nat -> Option AV} {g : Nat -> Option Ob} {c : Nat -> Bool} {a : Act} {w : World} {D : Nat -> Prop} {μ : Mu} {o : Oper}
theorem yjh {α : Type} : ∀ (l : List α) (i : Nat), nth l i = l[i]?
 | [], i => rfl
 | x :: xs, 0 => rfl
 | x :: xs, i + 1 => by simp [nth, yjh xs i]
theorem zr3 (hT : zbw P T) : ∀ (F : List Field) (fs pl : List (Nat × Nat)), F.map (fun f => (f.offset, f.type)) = fs -> zl4 T fs = some pl ->
   F.mapM (fun f => (P.info? f.type).map fun i => (f.offset, i.size)) = some pl
 | [], _, pl, rfl, e => by cases e; rfl
 | fd :: F, _, pl, rfl, e => by
   simp only [List.map_cons, zl4] at e
   split at e
   · rename_i s hs
     split at e
     · rename_i l hl
       cases e
       have ih := zr3 hT F _ l rfl hl
       unfold TT.sizeOf at hs
       split at hs
       · rename_i ti hti
         cases hs
         obtain ⟨i, z, h1, h2, _⟩ := (hT _ ti hti).info
         simp [List.mapM_cons, h1, h2, ih]
       · cases hs
     · cases e
   · cases e
theorem zva {ps : List (Nat × Operand)} : ∀ {vals : List AV}, Ops w.heap D μ a (ps.map Prod.snd) vals -> yeo w.heap D μ a ps vals := by
 induction ps with
 | nil => intro vals hv; cases vals with
   | nil => exact trivial
   | cons _ _ => exact hv.elim
 | cons p ps ih => intro vals hv; cases vals with
   | nil => exact hv.elim
   | cons v vs => exact ⟨hv.1, ih hv.2⟩
variable (h : Sim base M W nt f g c a w D μ) (hd : ∀ d, o.dst = some d -> d < nt)
include h hd
theorem zxg (hT : zbw P T) {t : TypeId} {ps : Array (Nat × Operand)} (e : o.op = .build t ps) {vals : List AV} (hv : Ops w.heap D μ a (ps.toList.map Prod.snd) vals) :
   zcg P base M W nt f g c o a w (yea T t ps.toList vals) := by
 have run : ∀ u, (Instr.build t (ps.map fun (i, x) => (i, a.eval x))).run P w = .ok u w -> (execOp a.eval o).run P w = .ok (.value u) w := by
   intro u hu; unfold execOp; rw [e]; simp [hu]
 unfold yea
 split
 · rename_i i hi
   have ok := hT t i hi
   obtain ⟨ii, z, i1, i2, i3, i4, i5, i6⟩ := ok.info
   have okk := ok.k
   split
   · rename_i fs hk
     rw [hk] at okk
     obtain ⟨F, hF, hfs⟩ := okk
     split
     · rename_i pl hpl
       split
       · rename_i cs hcs
         cases hs : zfv vals with
         | false => rw [hs] at hcs; cases hcs
         | true =>
           rw [hs] at hcs
           obtain ⟨C', f1, f2, f3⟩ := zlb (h := w.heap) (D := D) (μ := μ) ps.toList vals i.zero z.cells cs hcs hs (zva hv) (i6 _ _ _) i4
           refine za0 h hd (run (.agg C') (run_build w t _ C' ?_)) (.agg _ _ f2.1 f3 f2.2)
           unfold Program.built
           simp only [i1, hF, i3, zr3 hT F.toList fs pl hfs hpl]
           have e2 : (fun x => pl.toArray[x]?) = nth pl := by funext x; rw [yjh]; simp
           rw [e2]
           simpa using f1
       · trivial
     · trivial
   · rename_i n e' esz hk
     rw [hk] at okk
     obtain ⟨ok1, ok2⟩ := okk
     obtain ⟨ei, hei, hes⟩ := Option.map_eq_some_iff.1 ok2
     split
     · rename_i cs hcs
       cases hs : zfv vals with
       | false => rw [hs] at hcs; cases hcs
       | true =>
         rw [hs] at hcs
         obtain ⟨C', f1, f2, f3⟩ := zlb (h := w.heap) (D := D) (μ := μ) ps.toList vals i.zero z.cells cs hcs hs (zva hv) (i6 _ _ _) i4
         refine za0 h hd (run (.agg C') (run_build w t _ C' ?_)) (.agg _ _ f2.1 f3 f2.2)
         unfold Program.built
         simp only [i1, ok1, i3, hei, hes]
         simpa using f1
     · trivial
   · trivial
 · trivial
end
end Sy
end Go.Proofs.YtfonekpmkdkgnaaGreatDoor
namespace Go.Proofs.YtfonekpmkdkgnaaGreatDoor
namespace Sy
open Go Go.RowKit
set_option linter.unusedSimpArgs false
set_option linter.unusedVariables false
section
variable {P : Program} {T : TT} {base : Nat} {M : Two} {W : World} {nt : Nat} {f : Nat -> Option AV} {g : Nat -> Option Ob} {c : Nat -> Bool} {a : Act} {w : World} {D : Nat -> Prop} {μ : Mu} {o : Oper}
def DF (D : Nat -> Prop) (μ : Mu) (ids : List Nat) : Nat -> Prop := fun b => D b \/ ∃ id z m, id ∈ ids /\ μ id = some (some (b, z, m))
abbrev zsn (g : Nat -> Option Ob) (ids : List Nat) : Prop := ∀ id, id ∈ ids -> ∃ o, g id = some o /\ o ≠ .gone
theorem zw0 (h : Sim base M W nt f g c a w D μ) {ob : Nat -> Option Ob} (hob : ∀ id z, ob id = some z -> g id = some z) {x x' : AV} {v : Value} (e : zna std ob x = some x') (r : R w.heap D μ x v) {ids : List Nat} (hi : ∀ i, i ∈ zdu x -> i ∈ ids) (hx : ∀ id sz off n cap, x ≠ .slc id sz off n cap) :
   R w.heap (DF D μ ids) zam x' v /\ zsn g (zdu x) := by
 have up : ∀ {y : AV} {u : Value}, R w.heap D zam y u -> R w.heap (DF D μ ids) zam y u := fun r => r.mono (fun _ _ => rfl) (fun _ h => .inl h) (fun _ _ h => h)
 cases x with
 | slc id sz off n cap => exact absurd rfl (hx id sz off n cap)
 | sl id sz off n =>
   simp only [zna] at e
   split at e
   · rename_i sz' n' get hg
     have hg := hob _ _ hg
     split at e
     · rename_i hsz
       obtain rfl := za1 hsz
       cases e
       refine ⟨?_, fun i hi' => ?_⟩
       · cases r with
         | slv => exact .lst0 _ _ _ _ (fun _ => rfl)
         | sl0 => exact .lst0 _ _ _ _ (fun _ => rfl)
         | sl _ _ _ _ b z m cap hμ hn hz ho =>
           obtain ⟨hm, cc, t', fr, hh, hcs, _, hle, hrow⟩ := h.obs id _ _ hg hμ
           have key : ∀ i j, i < n -> j < sz -> ∃ y, cc[off * sz + i * sz + j]? = some y /\ one y /\ R w.heap D zam (get (off + i) j) y := by
             intro i j h1 h2
             obtain ⟨y, y1, y2, y3⟩ := hrow (off + i) j (by omega) h2
             rw [Nat.add_mul] at y1
             exact ⟨y, y1, y2, y3⟩
           refine .lst _ _ _ b (off * sz) cap (fun i j => cc.getD (off * sz + i * sz + j) undef) (.inr ⟨id, z, m, hi _ (by simp [zdu, zg6]), hμ⟩) hn (fun i j h1 h2 => ?_) (fun i j h1 h2 => ?_) (fun i j h1 h2 => ?_)
           · obtain ⟨y, y1, _⟩ := key i j h1 h2
             rw [zb9 hh]; exact getD_some (Array.getElem?_eq_some_iff.1 y1).1
           · obtain ⟨y, y1, y2, _⟩ := key i j h1 h2
             rw [getD_some (Array.getElem?_eq_some_iff.1 y1).1] at y1; cases y1; exact y2
           · obtain ⟨y, y1, _, y3⟩ := key i j h1 h2
             rw [getD_some (Array.getElem?_eq_some_iff.1 y1).1] at y1; cases y1; exact up y3
       · simp [zdu, zg6] at hi'; subst hi'; exact ⟨_, hg, by simp⟩
     · cases e
   · cases e
 | ref id off =>
   simp only [zna] at e
   split at e
   · rename_i cs hg
     have hg := hob _ _ hg
     split at e
     · rename_i hf
       cases e
       refine ⟨?_, fun i hi' => by simp [zdu, zg6] at hi'; subst hi'; exact ⟨_, hg, by simp⟩⟩
       cases r with
       | ref _ _ b z m hμ =>
         obtain ⟨cc, t', fr, hh, hcs, _, h1, e1, hr⟩ := h.obs id _ _ hg hμ
         refine .iptr _ _ b off (fun j => cc.getD (off + j) undef) (.inr ⟨id, z, m, hi _ (by simp [zdu, zg6]), hμ⟩) (fun j hj => ?_) (fun j hj => ?_) (fun j hj => ?_)
         · rw [zai] at hj; rw [zb9 hh]; exact getD_some (by omega)
         · rw [zai] at hj; exact h1 (off + j) _ (getD_some (by omega))
         · rw [zai] at hj
           have h3 := hr (off + j) _ _ (zal .dead cs (off + j) (by omega)) (getD_some (by omega))
           exact up (zdb h3 (zck hf _ _ (zal .dead cs (off + j) (by omega))))
     · cases e
   · rename_i sz n get hg
     have hg := hob _ _ hg
     split at e
     · cases e
       refine ⟨?_, fun i hi' => by simp [zdu, zg6] at hi'; subst hi'; exact ⟨_, hg, by simp⟩⟩
       cases r with
       | ref _ _ b z m hμ =>
         obtain ⟨hm, cc, t', fr, hh, hcs, _, hle, hrow⟩ := h.obs id _ _ hg hμ
         have key : ∀ q, q < n * sz -> ∃ y, cc[q]? = some y /\ one y /\ R w.heap D zam (zzn get sz q) y := by
           intro q hq
           have hs0 : 0 < sz := by
             rcases Nat.eq_zero_or_pos sz with h0 | h0
             · rw [h0] at hq; omega
             · exact h0
           obtain ⟨y, hy1, hy2, hy3⟩ := hrow (q / sz) (q % sz) (Nat.div_lt_of_lt_mul (by rw [Nat.mul_comm]; omega)) (Nat.mod_lt _ hs0)
           have e3 : q / sz * sz + q % sz = q := by rw [Nat.mul_comm]; exact Nat.div_add_mod q sz
           rw [e3] at hy1
           rw [yhj _ _ _ hs0]
           exact ⟨y, hy1, hy2, hy3⟩
         refine .iptr _ _ b 0 (fun j => cc.getD j undef) (.inr ⟨id, z, m, hi _ (by simp [zdu, zg6]), hμ⟩) (fun j hj => ?_) (fun j hj => ?_) (fun j hj => ?_)
         · obtain ⟨y, y1, _⟩ := key j hj
           rw [zb9 hh, Nat.zero_add]; exact getD_some (Array.getElem?_eq_some_iff.1 y1).1
         · obtain ⟨y, y1, y2, _⟩ := key j hj
           rw [getD_some (Array.getElem?_eq_some_iff.1 y1).1] at y1; cases y1; exact y2
         · obtain ⟨y, y1, _, y3⟩ := key j hj
           rw [getD_some (Array.getElem?_eq_some_iff.1 y1).1] at y1; cases y1; exact up y3
     · cases e
   · cases e
 | eref id sz i off =>
   simp only [zna] at e
   split at e
   · rename_i sz' n get hg
     have hg := hob _ _ hg
     split at e
     · rename_i hsz
       obtain rfl := za1 hsz
       cases e
       refine ⟨?_, fun i hi' => by simp [zdu, zg6] at hi'; subst hi'; exact ⟨_, hg, by simp⟩⟩
       cases r with
       | eref _ _ _ _ b z m hμ hi' =>
         obtain ⟨hm, cc, t', fr, hh, hcs, _, hle, hrow⟩ := h.obs id _ _ hg hμ
         have key : ∀ j, j < sz - off -> ∃ y, cc[i * sz + off + j]? = some y /\ one y /\ R w.heap D zam (get i (off + j)) y := by
           intro j hj
           obtain ⟨y, hy1, hy2, hy3⟩ := hrow i (off + j) (by omega) (by omega)
           rw [<- Nat.add_assoc] at hy1
           exact ⟨y, hy1, hy2, hy3⟩
         refine .iptr _ _ b (i * sz + off) (fun j => cc.getD (i * sz + off + j) undef) (.inr ⟨id, z, m, hi _ (by simp [zdu, zg6]), hμ⟩) (fun j hj => ?_) (fun j hj => ?_) (fun j hj => ?_)
         · obtain ⟨y, y1, _⟩ := key j hj
           rw [zb9 hh]; exact getD_some (Array.getElem?_eq_some_iff.1 y1).1
         · obtain ⟨y, y1, y2, _⟩ := key j hj
           rw [getD_some (Array.getElem?_eq_some_iff.1 y1).1] at y1; cases y1; exact y2
         · obtain ⟨y, y1, _, y3⟩ := key j hj
           rw [getD_some (Array.getElem?_eq_some_iff.1 y1).1] at y1; cases y1; exact up y3
     · cases e
   · cases e
 | fn k xs ys =>
   simp only [zna] at e
   split at e
   · rename_i hf
     cases e
     refine ⟨up (zdb r hf), ?_⟩
     have none0 : ∀ l : List AV, ziw l = true -> ztx l = [] := by
       intro l
       induction l with
       | nil => intro _; rfl
       | cons y l ih =>
         intro hl
         simp only [ziw] at hl
         split at hl
         · rename_i hy
           simp only [ztx, ih hl]
           cases y <;> first | rfl | cases hy
         · cases hl
     simp only [zmm] at hf
     split at hf
     · rename_i hx
       intro i hi'
       simp [zdu, none0 _ hx, none0 _ hf, zbs] at hi'
     · cases hf
   · cases e
 | agg cs => cases e
 | tup cs => cases e
 | mp id =>
   simp only [zna] at e
   split at e
   · rename_i kk n has val hg
     have hg := hob _ _ hg
     cases e
     cases r with
     | mp _ b z m hμ =>
       obtain ⟨es, clock, kf, hb, hn, hk, hr⟩ := h.obs id _ _ hg hμ
       refine ⟨.mpi _ _ _ _ b es clock kf (.inr ⟨id, z, m, hi _ (by simp [zdu, zg6]), hμ⟩) hb hn hk (fun i x hx => up (hr i x hx)), fun i hi' => ?_⟩
       simp [zdu, zg6] at hi'; subst hi'; exact ⟨_, hg, by simp⟩
   · cases e
 | bidx => cases e
 | aer => cases e
 | asl => cases e
 | mpi kk n has val => cases e; exact ⟨up (zb4 r rfl), fun i hi' => by simp [zdu, zg6] at hi'⟩
 | dead => cases e; exact ⟨.dead _, fun i hi' => by simp [zdu, zg6] at hi'⟩
 | bool b => cases e; exact ⟨up (zb4 r rfl), fun i hi' => by simp [zdu, zg6] at hi'⟩
 | int k n => cases e; exact ⟨up (zb4 r rfl), fun i hi' => by simp [zdu, zg6] at hi'⟩
 | str l => cases e; exact ⟨up (zb4 r rfl), fun i hi' => by simp [zdu, zg6] at hi'⟩
 | flt k b => cases e; exact ⟨up (zb4 r rfl), fun i hi' => by simp [zdu, zg6] at hi'⟩
 | cpx k a b => cases e; exact ⟨up (zb4 r rfl), fun i hi' => by simp [zdu, zg6] at hi'⟩
 | nilp => cases e; exact ⟨up (zb4 r rfl), fun i hi' => by simp [zdu, zg6] at hi'⟩
 | nilm => cases e; exact ⟨up (zb4 r rfl), fun i hi' => by simp [zdu, zg6] at hi'⟩
 | nilf => cases e; exact ⟨up (zb4 r rfl), fun i hi' => by simp [zdu, zg6] at hi'⟩
 | nils => cases e; exact ⟨up (zb4 r rfl), fun i hi' => by simp [zdu, zg6] at hi'⟩
 | nili => cases e; exact ⟨up (zb4 r rfl), fun i hi' => by simp [zdu, zg6] at hi'⟩
 | ifb b => cases e; exact ⟨up (zb4 r rfl), fun i hi' => by simp [zdu, zg6] at hi'⟩
 | emp => cases e; exact ⟨up (zb4 r rfl), fun i hi' => by simp [zdu, zg6] at hi'⟩
 | emz => cases e; exact ⟨up (zb4 r rfl), fun i hi' => by simp [zdu, zg6] at hi'⟩
 | lst sz n get => cases e; exact ⟨up (zb4 r rfl), fun i hi' => by simp [zdu, zg6] at hi'⟩
 | iptr n get => cases e; exact ⟨up (zb4 r rfl), fun i hi' => by simp [zdu, zg6] at hi'⟩
 | lstx sz n get => cases e; exact ⟨up (zb4 r rfl), fun i hi' => by simp [zdu, zg6] at hi'⟩
 | arr n get => cases e; exact ⟨up (zb4 r rfl), fun i hi' => by simp [zdu, zg6] at hi'⟩
theorem zmh (h : Sim base M W nt f g c a w D μ) {ob : Nat -> Option Ob} (hob : ∀ id z, ob id = some z -> g id = some z) {x x' : AV} {v : Value} (e : zna std ob x = some x') (r : R w.heap D μ x v) {ids : List Nat} (hi : ∀ i, i ∈ zdu x -> i ∈ ids) :
   R w.heap (DF D μ ids) zam x' v /\ zsn g (zdu x) := by
 by_cases hx : ∃ id sz off n cap, x = .slc id sz off n cap
 · obtain ⟨id, sz, off, n, cap, rfl⟩ := hx
   exact zw0 (x := .sl id sz off n) h hob e r.less hi (fun _ _ _ _ _ h => by cases h)
 · exact zw0 h hob e r hi (fun id sz off n cap h => hx ⟨id, sz, off, n, cap, h⟩)
theorem zkc {ob : Nat -> Option Ob} (hob : ∀ id z, ob id = some z -> g id = some z) {x x' : AV} (e : zna std ob x = some x') : zsn g (zdu x) := by
 intro i hi'
 cases x with
 | sl id sz off n =>
   simp [zdu, zg6] at hi'; subst hi'
   simp only [zna] at e
   split at e
   · rename_i hg; exact ⟨_, hob _ _ hg, by simp⟩
   · cases e
 | slc id sz off n cap =>
   simp [zdu, zg6] at hi'; subst hi'
   simp only [zna] at e
   split at e
   · rename_i hg; exact ⟨_, hob _ _ hg, by simp⟩
   · cases e
 | ref id off =>
   simp [zdu, zg6] at hi'; subst hi'
   simp only [zna] at e
   split at e
   · rename_i hg; exact ⟨_, hob _ _ hg, by simp⟩
   · rename_i hg; exact ⟨_, hob _ _ hg, by simp⟩
   · cases e
 | eref id sz j off =>
   simp [zdu, zg6] at hi'; subst hi'
   simp only [zna] at e
   split at e
   · rename_i hg; exact ⟨_, hob _ _ hg, by simp⟩
   · cases e
 | mp id =>
   simp [zdu, zg6] at hi'; subst hi'
   simp only [zna] at e
   split at e
   · rename_i hg; exact ⟨_, hob _ _ hg, by simp⟩
   · cases e
 | bidx => cases e
 | fn k xs ys =>
   simp only [zna] at e
   split at e
   · rename_i hf
     have none0 : ∀ l : List AV, ziw l = true -> ztx l = [] := by
       intro l
       induction l with
       | nil => intro _; rfl
       | cons y l ih =>
         intro hl
         simp only [ziw] at hl
         split at hl
         · rename_i hy
           simp only [ztx, ih hl]
           cases y <;> first | rfl | cases hy
         · cases hl
     simp only [zmm] at hf
     split at hf
     · rename_i hx
       simp [zdu, none0 _ hx, none0 _ hf, zbs] at hi'
     · cases hf
   · cases e
 | _ => simp [zdu, zg6] at hi'
theorem zmg (h : Sim base M W nt f g c a w D μ) {ob : Nat -> Option Ob} (hob : ∀ id z, ob id = some z -> g id = some z) : ∀ {xs xs' : List AV}, immL std ob xs = some xs' -> ∀ {ids : List Nat}, (∀ i, i ∈ zhn xs -> i ∈ ids) ->
   xs'.length = xs.length /\ zsn g (zhn xs) /\ ∀ (i : Nat) x x' v, xs[i]? = some x -> xs'[i]? = some x' -> R w.heap D μ x v -> R w.heap (DF D μ ids) zam x' v
 | [], xs', e, ids, hi => by
   cases e
   exact ⟨rfl, fun i hi' => by simp [zhn] at hi', fun i x x' v hx => by simp at hx⟩
 | x :: xs, xs', e, ids, hi => by
   simp only [immL] at e
   split at e
   · rename_i y hy
     split at e
     · rename_i ys hys
       cases e
       have hi1 : ∀ i, i ∈ zdu x -> i ∈ ids := fun i h => hi i (by simp [zhn, zae, h])
       have hi2 : ∀ i, i ∈ zhn xs -> i ∈ ids := fun i h => hi i (by simp [zhn, zae, h])
       obtain ⟨l1, l2, l3⟩ := zmg h hob hys hi2
       refine ⟨by simp [l1], fun i hi' => ?_, fun i z z' v hz hz' r => ?_⟩
       · simp only [zhn, zae, List.mem_append] at hi'
         rcases hi' with hi' | hi'
         · exact zkc hob hy i hi'
         · exact l2 i hi'
       · cases i with
         | zero => simp at hz hz'; subst hz; subst hz'; exact (zmh h hob hy r hi1).1
         | succ i => exact l3 i z z' v (by simpa using hz) (by simpa using hz') r
     · cases e
   · cases e
theorem ycr (h : Sim base M W nt f g c a w D μ) {ob : Nat -> Option Ob} (hob : ∀ id z, ob id = some z -> g id = some z) {x x' : AV} (e : ym4 std ob x = some x') {ids : List Nat} (hi : ∀ i, i ∈ zw2 x -> i ∈ ids) :
   zsn g (zw2 x) /\ ∀ v, R w.heap D μ x v -> R w.heap (DF D μ ids) zam x' v := by
 cases x with
 | agg cs =>
   simp only [ym4] at e
   split at e
   · rename_i ds hds
     cases e
     obtain ⟨l1, l2, l3⟩ := zmg h hob hds hi
     refine ⟨l2, fun v r => ?_⟩
     obtain ⟨us, rfl, h1, e1, hr⟩ := r.inv_agg
     refine .agg _ _ (by rw [l1, e1]) h1 (fun i x' v hx' hv => ?_)
     have hlt : i < cs.length := by rw [<- l1]; exact (List.getElem?_eq_some_iff.1 hx').1
     exact l3 i cs[i] x' v (by simp [hlt]) hx' (hr i _ v (by simp [hlt]) hv)
   · cases e
 | fn k xs ys =>
   simp only [ym4] at e
   split at e
   · rename_i xs' hxs
     split at e
     · rename_i ys' hys
       cases e
       obtain ⟨l1, l2, l3⟩ := zmg h hob hxs (ids := ids) (fun i h => hi i (by simp [zw2, zae, h]))
       obtain ⟨m1, m2, m3⟩ := zmg h hob hys (ids := ids) (fun i h => hi i (by simp [zw2, zae, h]))
       refine ⟨fun i hi' => ?_, fun v r => ?_⟩
       · simp only [zw2, zae, List.mem_append] at hi'
         rcases hi' with hi' | hi'
         · exact l2 i hi'
         · exact m2 i hi'
       · cases r with
         | fn _ _ _ vs us e1 e2 h1 h2 =>
           refine .fn _ _ _ _ _ (by rw [l1, e1]) (by rw [m1, e2]) (fun i x' v hx' hv => ?_) (fun i x' v hx' hv => ?_)
           · have hlt : i < xs.length := by rw [<- l1]; exact (List.getElem?_eq_some_iff.1 hx').1
             exact l3 i xs[i] x' v (by simp [hlt]) hx' (h1 i _ v (by simp [hlt]) hv)
           · have hlt : i < ys.length := by rw [<- m1]; exact (List.getElem?_eq_some_iff.1 hx').1
             exact m3 i ys[i] x' v (by simp [hlt]) hx' (h2 i _ v (by simp [hlt]) hv)
     · cases e
   · cases e
 | tup cs => (simp only [ym4, zna] at e; cases e)
 | _ => (simp only [ym4] at e; exact ⟨zkc hob e, fun v r => (zmh h hob e r hi).1⟩)
theorem zl9 (h : Sim base M W nt f g c a w D μ) {ob : Nat -> Option Ob} (hob : ∀ id z, ob id = some z -> g id = some z) : ∀ {xs xs' : List AV}, immVs std ob xs = some xs' -> ∀ {ids : List Nat}, (∀ i, i ∈ ze8 xs -> i ∈ ids) ->
   xs'.length = xs.length /\ zsn g (ze8 xs) /\ ∀ (i : Nat) x x' v, xs[i]? = some x -> xs'[i]? = some x' -> R w.heap D μ x v -> R w.heap (DF D μ ids) zam x' v
 | [], xs', e, ids, hi => by
   cases e
   exact ⟨rfl, fun i hi' => by simp [ze8] at hi', fun i x x' v hx => by simp at hx⟩
 | x :: xs, xs', e, ids, hi => by
   simp only [immVs] at e
   split at e
   · rename_i y hy
     split at e
     · rename_i ys hys
       cases e
       have hi1 : ∀ i, i ∈ zw2 x -> i ∈ ids := fun i h => hi i (by simp [ze8, zae, h])
       have hi2 : ∀ i, i ∈ ze8 xs -> i ∈ ids := fun i h => hi i (by simp [ze8, zae, h])
       obtain ⟨l1, l2, l3⟩ := zl9 h hob hys hi2
       obtain ⟨v1, v2⟩ := ycr h hob hy hi1
       refine ⟨by simp [l1], fun i hi' => ?_, fun i z z' v hz hz' r => ?_⟩
       · simp only [ze8, zae, List.mem_append] at hi'
         rcases hi' with hi' | hi'
         · exact v1 i hi'
         · exact l2 i hi'
       · cases i with
         | zero => simp at hz hz'; subst hz; subst hz'; exact v2 v r
         | succ i => exact l3 i z z' v (by simpa using hz) (by simpa using hz') r
     · cases e
   · cases e
def zzi (D : Nat -> Prop) (μ : Mu) : Nat -> Prop := fun b => D b \/ ∃ id z m, μ id = some (some (b, z, m))
theorem DF_W {ids : List Nat} {b : Nat} (hb : DF D μ ids b) : zzi D μ b := by
 rcases hb with hb | ⟨id, z, m, _, h⟩
 · exact .inl hb
 · exact .inr ⟨id, z, m, h⟩
theorem upW {x : AV} {v : Value} (r : R w.heap D zam x v) : R w.heap (zzi D μ) zam x v := r.mono (fun _ _ => rfl) (fun _ h => .inl h) (fun _ _ h => h)
theorem ys4 (h : Sim base M W nt f g c a w D μ) {p k ty sz n0 : Nat} {len : Nat -> Nat} {get : Nat -> Nat -> Nat -> AV} (hg : g p = some (.tab ty sz n0 len get)) {off n : Nat} {v : Value} (r : R w.heap D μ (.asl p k sz off n) v) :
   R w.heap (zzi D μ) zam (.lst sz n (fun i j => get k (off + i) j)) v := by
 cases r with
 | aslv _ _ _ ad hm => exact .lst0 _ _ _ _ (fun _ => rfl)
 | asl0 => exact .lst0 _ _ _ _ (fun _ => rfl)
 | asl _ _ _ _ _ b z m cap hμ hn hz ho =>
   obtain ⟨hk, hm, cc, t', fr, hh, hcs, _, hle, hrow⟩ := zow h hg hμ
   have key : ∀ i j, i < n -> j < sz -> ∃ y, cc[off * sz + i * sz + j]? = some y /\ one y /\ R w.heap D zam (get k (off + i) j) y := by
     intro i j h1 h2
     obtain ⟨y, y1, y2, y3⟩ := hrow (off + i) j (by omega) h2
     rw [Nat.add_mul] at y1
     exact ⟨y, y1, y2, y3⟩
   refine .lst _ _ _ b (off * sz) cap (fun i j => cc.getD (off * sz + i * sz + j) undef) (.inr ⟨_, z, m, hμ⟩) hn (fun i j h1 h2 => ?_) (fun i j h1 h2 => ?_) (fun i j h1 h2 => ?_)
   · obtain ⟨y, y1, _⟩ := key i j h1 h2
     rw [zb9 hh]; exact getD_some (Array.getElem?_eq_some_iff.1 y1).1
   · obtain ⟨y, y1, y2, _⟩ := key i j h1 h2
     rw [getD_some (Array.getElem?_eq_some_iff.1 y1).1] at y1; cases y1; exact y2
   · obtain ⟨y, y1, _, y3⟩ := key i j h1 h2
     rw [getD_some (Array.getElem?_eq_some_iff.1 y1).1] at y1; cases y1; exact upW y3
theorem zwx {ob : Nat -> Option Ob} {x : AV} {v : Value} (hx : ∀ p k sz off n, x ≠ .asl p k sz off n) (r : R w.heap D μ x v) : R w.heap (zzi D μ) zam (zne ob x) v := by
 have key : zne ob x = match zm0 x with | true => x | false => .dead := by
   cases x <;> first | rfl | exact absurd rfl (hx _ _ _ _ _)
 rw [key]
 split
 · rename_i e; exact upW (zb4 r e)
 · exact .dead _
theorem ypf (h : Sim base M W nt f g c a w D μ) {ob : Nat -> Option Ob} (hob : ∀ id z, ob id = some z -> g id = some z) {x : AV} {v : Value} (r : R w.heap D μ x v) : R w.heap (zzi D μ) zam (zne ob x) v := by
 by_cases hx : ∃ p k sz off n, x = .asl p k sz off n
 · obtain ⟨p, k, sz, off, n, rfl⟩ := hx
   simp only [zne]
   split
   · rename_i hg
     split
     · rename_i hsz
       obtain rfl := za1 hsz
       exact ys4 h (hob _ _ hg) r
     · exact .dead _
   · exact .dead _
 · exact zwx (fun p k sz off n e => hx ⟨p, k, sz, off, n, e⟩) r
theorem yaf (h : Sim base M W nt f g c a w D μ) {ob : Nat -> Option Ob} (hob : ∀ id z, ob id = some z -> g id = some z) {x x' : AV} {v : Value} (e : ysi std ob x = some x') (r : R w.heap D μ x v) : R w.heap (zzi D μ) zam x' v := by
 have imm : zna std ob x = some x' -> R w.heap (zzi D μ) zam x' v := fun e => (zmh h hob e r (ids := zdu x) (fun _ h => h)).1.mono (fun _ _ => rfl) (fun _ h => DF_W h) (fun _ _ h => h)
 unfold ysi at e
 split at e
 · rename_i id sz off n
   split at e
   · rename_i q ty sz' m0 get hg
     have hg := hob _ _ hg
     split at e
     · rename_i hsz hq
       obtain rfl := za1 hsz
       cases e
       cases r with
       | slv => exact .lst0 _ _ _ _ (fun _ => rfl)
       | sl0 => exact .lst0 _ _ _ _ (fun _ => rfl)
       | sl _ _ _ _ b z m cap hμ hn hz ho =>
         obtain ⟨hm, cc, t', fr, hh, hcs, _, hle, hrow⟩ := h.obs id _ _ hg hμ
         have key : ∀ i j, i < n -> j < sz -> ∃ y, cc[off * sz + i * sz + j]? = some y /\ one y /\ R w.heap D (pm q μ) (get (off + i) j) y := by
           intro i j h1 h2
           obtain ⟨y, y1, y2, y3⟩ := hrow (off + i) j (by omega) h2
           rw [Nat.add_mul] at y1
           exact ⟨y, y1, y2, y3⟩
         refine .lst _ _ _ b (off * sz) cap (fun i j => cc.getD (off * sz + i * sz + j) undef) (.inr ⟨id, z, m, hμ⟩) hn (fun i j h1 h2 => ?_) (fun i j h1 h2 => ?_) (fun i j h1 h2 => ?_)
         · obtain ⟨y, y1, _⟩ := key i j h1 h2
           rw [zb9 hh]; exact getD_some (Array.getElem?_eq_some_iff.1 y1).1
         · obtain ⟨y, y1, y2, _⟩ := key i j h1 h2
           rw [getD_some (Array.getElem?_eq_some_iff.1 y1).1] at y1; cases y1; exact y2
         · obtain ⟨y, y1, _, y3⟩ := key i j h1 h2
           rw [getD_some (Array.getElem?_eq_some_iff.1 y1).1] at y1; cases y1
           exact ypf h hob y3.unpm
     · cases e
   · exact imm e
 · rename_i p k sz off n
   split at e
   · rename_i hg
     split at e
     · rename_i hsz
       obtain rfl := za1 hsz
       cases e
       exact ys4 h (hob _ _ hg) r
     · cases e
   · cases e
 · cases e
 · exact imm e
theorem yae (h : Sim base M W nt f g c a w D μ) {ob : Nat -> Option Ob} (hob : ∀ id z, ob id = some z -> g id = some z) : ∀ {xs xs' : List AV}, ysh std ob xs = some xs' ->
   xs'.length = xs.length /\ ∀ (i : Nat) x x' v, xs[i]? = some x -> xs'[i]? = some x' -> R w.heap D μ x v -> R w.heap (zzi D μ) zam x' v
 | [], xs', e => by
   cases e
   exact ⟨rfl, fun i x x' v hx => by simp at hx⟩
 | x :: xs, xs', e => by
   simp only [ysh] at e
   split at e
   · rename_i y hy
     split at e
     · rename_i ys hys
       cases e
       obtain ⟨l1, l3⟩ := yae h hob hys
       refine ⟨by simp [l1], fun i z z' v hz hz' r => ?_⟩
       cases i with
       | zero => simp at hz hz'; subst hz; subst hz'; exact yaf h hob hy r
       | succ i => exact l3 i z z' v (by simpa using hz) (by simpa using hz') r
     · cases e
   · cases e
theorem ykt (h : Sim base M W nt f g c a w D μ) {ob : Nat -> Option Ob} (hob : ∀ id z, ob id = some z -> g id = some z) {x x' : AV} (e : ytj std ob x = some x') {v : Value} (r : R w.heap D μ x v) : R w.heap (zzi D μ) zam x' v := by
 unfold ytj at e
 split at e
 · rename_i cs
   split at e
   · rename_i ds hds
     cases e
     obtain ⟨l1, l3⟩ := yae h hob hds
     obtain ⟨us, rfl, h1, e1, hr⟩ := r.inv_agg
     refine .agg _ _ (by rw [l1, e1]) h1 (fun i x' v hx' hv => ?_)
     have hlt : i < cs.length := by rw [<- l1]; exact (List.getElem?_eq_some_iff.1 hx').1
     exact l3 i cs[i] x' v (by simp [hlt]) hx' (hr i _ v (by simp [hlt]) hv)
   · cases e
 · exact yaf h hob e r
theorem zoz (h : Sim base M W nt f g c a w D μ) {ob : Nat -> Option Ob} (hob : ∀ id z, ob id = some z -> g id = some z) : ∀ {xs xs' : List AV}, zwy std ob xs = some xs' ->
   xs'.length = xs.length /\ ∀ (i : Nat) x x' v, xs[i]? = some x -> xs'[i]? = some x' -> R w.heap D μ x v -> R w.heap (zzi D μ) zam x' v
 | [], xs', e => by
   cases e
   exact ⟨rfl, fun i x x' v hx => by simp at hx⟩
 | x :: xs, xs', e => by
   simp only [zwy] at e
   split at e
   · rename_i y hy
     split at e
     · rename_i ys hys
       cases e
       obtain ⟨l1, l3⟩ := zoz h hob hys
       refine ⟨by simp [l1], fun i z z' v hz hz' r => ?_⟩
       cases i with
       | zero => simp at hz hz'; subst hz; subst hz'; exact ykt h hob hy r
       | succ i => exact l3 i z z' v (by simpa using hz) (by simpa using hz') r
     · cases e
   · cases e
theorem zsw {x : AV} {h : Array Obj} {D D' : Nat -> Prop} {μ' : Mu} {v : Value} (r : R h D μ x v) (e : yf6 x = true) : R h D' μ' x v := by
 cases x <;> first | (cases e; done) | (cases r; first | exact .bool _ | exact .int _ _ | exact .str _ _ (by assumption) | exact .flt _ _ | exact .cpx _ _ _ | exact .nilp | exact .nilm | exact .nilf | exact .nils | exact .nili)
theorem zlt : ∀ {xs : List AV}, yal xs = true -> ∀ (i : Nat) x, xs[i]? = some x -> yf6 x = true
 | x :: xs, e, i, y, hy => by
   simp only [yal] at e
   split at e
   · rename_i h1
     cases i with
     | zero => simp at hy; subst hy; exact h1
     | succ i => exact zlt e i y (by simpa using hy)
   · cases e
theorem ykv {x : AV} {h : Array Obj} {D D' : Nat -> Prop} {μ' : Mu} {v : Value} (r : R h D μ x v) (e : yak x = true) : R h D' μ' x v := by
 unfold yak at e
 split at e
 · obtain ⟨us, rfl, h1, e1, hr⟩ := r.inv_agg
   exact .agg _ _ e1 h1 fun i x v hx hv => zsw (hr i x v hx hv) (zlt e i x hx)
 · obtain ⟨us, rfl, e1, hr⟩ := r.inv_tup
   exact .tup _ _ e1 fun i x v hx hv => zsw (hr i x v hx hv) (zlt e i x hx)
 · exact zsw r e
theorem zt6 (h : Sim base M W nt f g c a w D μ) {ob : Nat -> Option Ob} (hob : ∀ id z, ob id = some z -> g id = some z) {q : Nat} : ∀ {xs xs' : List AV}, putP std q ob xs = some xs' -> ∀ {ids : List Nat}, (∀ i, i ∈ zhn xs -> i ∈ ids) ->
   xs'.length = xs.length /\ zsn g (zhn xs) /\ ∀ (i : Nat) x x' v, xs[i]? = some x -> xs'[i]? = some x' -> R w.heap D μ x v -> R w.heap (DF D μ ids) (pm q μ) x' v
 | [], xs', e, ids, hi => by
   cases e
   exact ⟨rfl, fun i hi' => by simp [zhn] at hi', fun i x x' v hx => by simp at hx⟩
 | x :: xs, xs', e, ids, hi => by
   simp only [putP] at e
   split at e
   · rename_i y hy
     split at e
     · rename_i ys hys
       cases e
       have hi1 : ∀ i, i ∈ zdu x -> i ∈ ids := fun i h => hi i (by simp [zhn, zae, h])
       have hi2 : ∀ i, i ∈ zhn xs -> i ∈ ids := fun i h => hi i (by simp [zhn, zae, h])
       obtain ⟨l1, l2, l3⟩ := zt6 h hob hys hi2
       have up : q < zcn -> ∀ k, pm q μ (mid q k) = μ (mid q k) := fun hq k => by
         obtain ⟨m1, m2, _⟩ := zff hq k
         unfold pm; rw [if_pos ⟨m1, m2⟩]
       have one1 : zsn g (zdu x) /\ ∀ v, R w.heap D μ x v -> R w.heap (DF D μ ids) (pm q μ) y v := by
         split at hy
         · rename_i p k sz' off n
           split at hy
           · rename_i hp hlt
             obtain rfl := za1 hp
             have up := up (zas hlt)
             cases hy
             refine ⟨fun i hi' => by simp [zdu, zg6] at hi', fun v r => ?_⟩
             cases r with
             | aslv _ _ _ ad hm => exact .aslv _ _ _ ad ((up k).trans hm)
             | asl0 _ _ _ _ b z m o hm ho => exact .asl0 _ _ _ _ b z m o ((up k).trans hm) ho
             | asl _ _ _ _ _ b z m cap hm hn hz ho => exact .asl _ _ _ _ _ b z m cap ((up k).trans hm) hn hz ho
           · cases hy
         · rename_i p k sz' j off
           split at hy
           · rename_i hp hlt
             obtain rfl := za1 hp
             have up := up (zas hlt)
             cases hy
             refine ⟨fun i hi' => by simp [zdu, zg6] at hi', fun v r => ?_⟩
             cases r with
             | aer _ _ _ _ _ b z m hm hj => exact .aer _ _ _ _ _ b z m ((up k).trans hm) hj
           · cases hy
         · exact ⟨zkc hob hy, fun v r => (zmh h hob hy r hi1).1.free⟩
       refine ⟨by simp [l1], fun i hi' => ?_, fun i z z' v hz hz' r => ?_⟩
       · simp only [zhn, zae, List.mem_append] at hi'
         rcases hi' with hi' | hi'
         · exact one1.1 i hi'
         · exact l2 i hi'
       · cases i with
         | zero => simp at hz hz'; subst hz; subst hz'; exact one1.2 v r
         | succ i => exact l3 i z z' v (by simpa using hz) (by simpa using hz') r
     · cases e
   · cases e
end
end Sy
end Go.Proofs.YtfonekpmkdkgnaaGreatDoor
namespace Go.Proofs.YtfonekpmkdkgnaaGreatDoor
namespace Sy
open Go Go.RowKit
set_option linter.unusedSimpArgs false
set_option linter.unusedVariables false
theorem zj1 (n : Nat) : yc2 n (0, 0) := fun o _ => by omega
theorem zg3 (z : List AV) : ∀ n, (zel z n).length = n * z.length
 | 0 => by simp [zel]
 | n + 1 => by rw [zel, zae, List.length_append, zg3 z n, Nat.add_mul]; omega
theorem zib (z : List AV) : ∀ n i j, i < n -> j < z.length -> (zel z n)[i * z.length + j]? = z[j]?
 | n + 1, 0, j, _, hj => by rw [zel, zae]; simp [List.getElem?_append_left hj]
 | n + 1, i + 1, j, hi, hj => by
   rw [zel, zae, List.getElem?_append_right (by rw [Nat.add_mul]; omega)]
   rw [show (i + 1) * z.length + j - z.length = i * z.length + j by rw [Nat.add_mul]; omega]
   exact zib z n i j (by omega) hj
theorem yb6 {x y : AV} (h : yb7 x y = true) : x = y := by
 unfold yb7 at h
 split at h
 · rw [of_decide_eq_true h]
 · split at h
   · rename_i hk; rw [of_decide_eq_true hk, of_decide_eq_true h]
   · cases h
 · rw [of_decide_eq_true h]
 all_goals first | rfl | cases h
theorem zny : ∀ {xs ys : List AV}, zp3 xs ys = true -> xs = ys
 | [], [], _ => rfl
 | x :: xs, y :: ys, h => by
   simp only [zp3] at h
   split at h
   · rename_i h1
     rw [yb6 h1, zny h]
   · cases h
theorem zch {h : Array Obj} {D : Nat -> Prop} {μ : Mu} {x : AV} {v : Value} (r : R h D μ x v) : ∀ y, R h D μ (zer std true x y) v := by
 induction r with
 | bool b => intro y; cases y <;> first | exact .bool _ | exact .dead _
 | int k n => intro y; cases y <;> first | exact .dead _ | skip
              rename_i k' m
              simp only [zer]
              split
              · exact .int _ _
              · exact .dead _
 | str l s e => intro y; cases y <;> first | exact .str _ _ e | exact .dead _
 | cpx k a b => intro y; cases y <;> first | exact .dead _ | skip
                simp only [zer]
                split
                · exact .cpx _ _ _
                · exact .dead _
 | nilp => intro y; cases y <;> first | exact .nilp | exact .dead _
 | nilm => intro y; cases y <;> first | exact .nilm | exact .dead _
 | nilf => intro y; cases y <;> first | exact .nilf | exact .dead _
 | nils => intro y; cases y <;> first | exact .nils | exact .lst0 _ _ _ _ (fun _ => rfl) | exact .dead _
 | nili => intro y; cases y <;> first | exact .nili | exact .dead _
 | ifn => intro y; cases y <;> first | exact .ifn | exact .dead _
 | ifs t p => intro y; cases y <;> first | exact .ifs _ _ | exact .dead _
 | emp a cap => intro y; cases y <;> exact .dead _
 | emz a => intro y; cases y <;> exact .dead _
 | lst0 sz get a cap hn => intro y; cases y <;> first | exact .lst0 _ _ _ _ hn | exact .dead _ | skip
                           simp only [zer]
                           split
                           · exact .lst0 _ _ _ _ hn
                           · exact .dead _
 | lst sz n get b o cap vs hD hc hv h1 hr ih =>
   intro y
   cases y with
   | nils => exact .lst _ _ _ b o cap vs hD hc hv h1 hr
   | asl p' k' sz' off' n' => exact .lst _ _ _ b o cap vs hD hc hv h1 hr
   | lst sz' n' get' =>
     simp only [zer]
     split
     · exact .lst _ _ _ b o cap vs hD hc hv h1 hr
     · exact .dead _
   | _ => exact .dead _
 | aer p k sz i off b z m hm hi =>
   intro y
   cases y with
   | aer p' k' sz' i' off' =>
     simp only [zer]
     split
     · exact .aer _ _ _ _ _ b z m hm hi
     · exact .dead _
   | _ => exact .dead _
 | aslv p k sz a hm =>
   intro y
   cases y with
   | lst sz' n' get' => exact .aslv _ _ _ a hm
   | asl p' k' sz' off' n' =>
     simp only [zer]
     split
     · exact .aslv _ _ _ a hm
     · exact .dead _
   | _ => exact .dead _
 | asl0 p k sz off b z m o hm ho =>
   intro y
   cases y with
   | lst sz' n' get' => exact .asl0 _ _ _ _ b z m o hm ho
   | asl p' k' sz' off' n' =>
     simp only [zer]
     split
     · exact .asl0 _ _ _ _ b z m o hm ho
     · exact .dead _
   | _ => exact .dead _
 | asl p k sz off n b z m cap hm hn hz ho =>
   intro y
   cases y with
   | lst sz' n' get' => exact .asl _ _ _ _ _ b z m cap hm hn hz ho
   | asl p' k' sz' off' n' =>
     simp only [zer]
     split
     · exact .asl _ _ _ _ _ b z m cap hm hn hz ho
     · exact .dead _
   | _ => exact .dead _
 | _ => intro y; cases y <;> exact .dead _
theorem zbj {h : Array Obj} {D : Nat -> Prop} {μ : Mu} {y : AV} {v : Value} (r : R h D μ y v) : ∀ x, R h D μ (zer std false x y) v := by
 induction r with
 | bool b => intro x; cases x <;> first | exact .bool _ | exact .dead _
 | int k n => intro x; cases x <;> first | exact .dead _ | skip
              rename_i k' m
              simp only [zer]
              split
              · rename_i hk
                rw [of_decide_eq_true hk]
                exact .int _ _
              · exact .dead _
 | str l s e => intro x; cases x <;> first | exact .str _ _ e | exact .dead _
 | cpx k a b => intro x; cases x <;> first | exact .dead _ | skip
                simp only [zer]
                split
                · rename_i hk
                  rw [of_decide_eq_true hk]
                  exact .cpx _ _ _
                · exact .dead _
 | nilp => intro x; cases x <;> first | exact .nilp | exact .dead _
 | nilm => intro x; cases x <;> first | exact .nilm | exact .dead _
 | nilf => intro x; cases x <;> first | exact .nilf | exact .dead _
 | nils => intro x; cases x <;> first | exact .nils | exact .lst0 _ _ _ _ (fun _ => rfl) | exact .dead _
 | nili => intro x; cases x <;> first | exact .nili | exact .dead _
 | ifn => intro x; cases x <;> first | exact .ifn | exact .dead _
 | ifs t p => intro x; cases x <;> first | exact .ifs _ _ | exact .dead _
 | emp a cap => intro x; cases x <;> exact .dead _
 | emz a => intro x; cases x <;> exact .dead _
 | lst0 sz get a cap hn => intro x; cases x <;> first | exact .lst0 _ _ _ _ hn | exact .dead _ | skip
                           simp only [zer]
                           split
                           · exact .lst0 _ _ _ _ hn
                           · exact .dead _
 | lst sz n get b o cap vs hD hc hv h1 hr ih =>
   intro x
   cases x with
   | nils => exact .lst _ _ _ b o cap vs hD hc hv h1 hr
   | asl p' k' sz' off' n' => exact .lst _ _ _ b o cap vs hD hc hv h1 hr
   | lst sz' n' get' =>
     simp only [zer]
     split
     · rename_i hk
       obtain rfl := of_decide_eq_true hk
       exact .lst _ _ _ b o cap vs hD hc hv h1 hr
     · exact .dead _
   | _ => exact .dead _
 | aer p k sz i off b z m hm hi =>
   intro x
   cases x with
   | aer p' k' sz' i' off' =>
     simp only [zer]
     split
     · rename_i e1 e2 e3
       obtain rfl := za1 e1
       obtain rfl := za1 e2
       obtain rfl := za1 e3
       exact .aer _ _ _ _ _ b z m hm hi
     · exact .dead _
   | _ => exact .dead _
 | aslv p k sz a hm =>
   intro x
   cases x with
   | lst sz' n' get' => exact .aslv _ _ _ a hm
   | asl p' k' sz' off' n' =>
     simp only [zer]
     split
     · rename_i e1 e2
       obtain rfl := za1 e1
       obtain rfl := za1 e2
       exact .aslv _ _ _ a hm
     · exact .dead _
   | _ => exact .dead _
 | asl0 p k sz off b z m o hm ho =>
   intro x
   cases x with
   | lst sz' n' get' => exact .asl0 _ _ _ _ b z m o hm ho
   | asl p' k' sz' off' n' =>
     simp only [zer]
     split
     · rename_i e1 e2
       obtain rfl := za1 e1
       obtain rfl := za1 e2
       exact .asl0 _ _ _ _ b z m o hm ho
     · exact .dead _
   | _ => exact .dead _
 | asl p k sz off n b z m cap hm hn hz ho =>
   intro x
   cases x with
   | lst sz' n' get' => exact .asl _ _ _ _ _ b z m cap hm hn hz ho
   | asl p' k' sz' off' n' =>
     simp only [zer]
     split
     · rename_i e1 e2
       obtain rfl := za1 e1
       obtain rfl := za1 e2
       exact .asl _ _ _ _ _ b z m cap hm hn hz ho
     · exact .dead _
   | _ => exact .dead _
 | _ => intro x; cases x <;> exact .dead _
theorem zj6 {x : Nat} (h : 600000 <= x) : zcy x = false := by
 unfold zcy
 split
 · rw [Bool.eq_false_iff]
   intro h2
   have := zas h2
   omega
 · rfl
theorem zqa : 600000 <= zcn := by unfold zcn; exact Nat.le_of_ble_eq_true rfl
theorem zrk {t : Nat} (ht : t < zcn) (k : Nat) : zcy (mid t k) = false := zj6 (Nat.le_trans zqa (zcz.1 (zff ht k).1))
theorem yiz {x : AV} {hp : Array Obj} {D : Nat -> Prop} {μ : Mu} {v : Value} (y : AV) (r : R hp D μ y v) (k n : Nat) (hk : k ≠ n) : R hp D μ (zer std (L2 std za8 k n) x y) v := by
 rw [show L2 std za8 k n = false from zak hk]
 exact zbj r _
section
variable {P : Program} {T : TT} {base : Nat} {M : Two} {W : World} {nt : Nat} {f : Nat -> Option AV} {g : Nat -> Option Ob} {c : Nat -> Bool} {a : Act} {w : World} {D : Nat -> Prop} {μ : Mu} {o : Oper}
theorem zcl {b : Bool} {x : Option Nat} {d : Nat} (e : cond b x none = some d) : b = true /\ x = some d := by cases b <;> simp_all
variable (h : Sim base M W nt f g c a w D μ) (hd : ∀ d, o.dst = some d -> d < nt)
include h hd
theorem zkl {d : Nat} (hdst : o.dst = some d) (hnew : g d = none) (cs : Array Value) (t : TypeId) (ob : Ob) (m : Nat) (hne : ob ≠ .gone) (hok : ze6 (w.alloc (.cells cs t)).heap D μ ob (some (w.heap.size, cs.size, m)))
   {v : AV} {u : Value} (run : (execOp a.eval o).run P w = .ok (.value u) (w.alloc (.cells cs t))) (r : ∀ D' μ', μ' d = some (some (w.heap.size, cs.size, m)) -> R (w.alloc (.cells cs t)).heap D' μ' v u) (ht : zar ob = false := by rfl) :
   Adv P base M W nt f g c o a w v [(d, ob)] [] := fun K Q hK => by
 unfold Oper.wp
 rw [run]
 have h1 := h.new (hd _ hdst) hnew ob cs t m hne hok ht
 exact hK _ _ ⟨_, _, h1.put hd (r _ _ (by simp))⟩
omit hd in
theorem yk4 {xs : List AV} {C : Array Value} {t : TypeId} (h1 : ones C) (r : RL w.heap D μ xs C) : ze6 (w.alloc (.cells C t)).heap D μ (.box t xs) (some (w.heap.size, C.size, 0)) := by
 refine ⟨C, t, (0, 0), heap_alloc_new _ _, rfl, ⟨zj1 _, rfl⟩, h1, r.1, fun i x v hx hv => (r.2 i x v hx hv).mono (fun b hb => Below.heap_alloc _ _ _ (h.dlt b hb)) (fun _ h => h) (fun _ _ h => h)⟩
omit hd in
theorem zi0 {sz n : Nat} {get : Nat -> Nat -> AV} {C : Array Value} {t : TypeId} (hsz : n * sz <= C.size) (h1 : ones C) (r : ∀ i j, i < n -> j < sz -> ∃ v, C[i * sz + j]? = some v /\ one v /\ R w.heap D zam (get i j) v) :
   ze6 (w.alloc (.cells C t)).heap D μ (.row t sz n get) (some (w.heap.size, C.size, n)) := by
 refine ⟨rfl, C, t, (0, 0), heap_alloc_new _ _, rfl, ⟨zj1 _, rfl, h1, fun _ => zj1 _⟩, hsz, fun i j hi hj => ?_⟩
 obtain ⟨v, v1, v2, v3⟩ := r i j hi hj
 exact ⟨v, v1, v2, v3.mono (fun b hb => Below.heap_alloc _ _ _ (h.dlt b hb)) (fun _ h => h) (fun _ _ h => h)⟩
theorem zxi (hT : zbw P T) {t : TypeId} (e : o.op = .alloc t) : zcg P base M W nt f g c o a w (yeb T o.dst t (zds g o.op o.dst)) := by
 unfold yeb
 split
 · rename_i d hc
   obtain ⟨hn, hdst⟩ := zcl hc
   have hnew : g d = none := by
     simp only [zds, e, zd0, hdst] at hn
     cases hg : g d with
     | none => rfl
     | some _ => rw [hg] at hn; cases hn
   split
   · rename_i i hi
     have ok := hT t i hi
     obtain ⟨z, z1, z2, z3, z4⟩ := ok.zeroV
     have run : (execOp a.eval o).run P w = .ok (.value (.pointer (some ⟨w.heap.size, 0, none⟩))) (w.alloc (.cells z.cells t)) := by
       unfold execOp
       rw [e]
       simp [Instr.alloc, z1, newVar, newRow]
     have okk := ok.k
     split
     · rename_i n e' esz hk
       rw [hk] at okk
       split
       · rename_i ei hei
         split
         · rename_i hz hsz hfr
           have hz := zny hz
           have hsz := za1 hsz
           rw [zai] at hsz
           have r := z4 w.heap D μ
           have hl : i.zero.length = n * esz := by rw [hz, zg3, hsz]
           refine zkl h hd hdst hnew z.cells t _ n (by simp) (zi0 h (by rw [<- r.1, hl]; omega) z2 (fun i' j hi' hj => ?_)) run (fun D' μ' hm => .ref _ _ _ _ _ hm)
           have hx : i.zero[i' * esz + j]? = some (zbb .dead ei.zero j) := by
             rw [hz, <- hsz, zib _ _ _ _ hi' (by omega)]
             exact zal _ _ _ (by omega)
           have hlt : i' * esz + j < z.cells.size := by rw [<- r.1]; exact (List.getElem?_eq_some_iff.1 hx).1
           exact ⟨_, getD_some hlt, z2 _ _ (getD_some hlt), zdb (r.2 _ _ _ hx (getD_some hlt)) (zck hfr _ _ (zal _ _ _ (by omega)))⟩
         · trivial
       · trivial
     · exact zkl h hd hdst hnew z.cells t (.box t i.zero) 0 (by simp) (yk4 h z2 (z4 _ _ _)) run (fun D' μ' hm => .ref _ _ _ _ _ hm)
   · trivial
 · trivial
theorem zt1 (hT : zbw P T) {t : TypeId} (e : o.op = .alloc t) {ob : Nat -> Option Ob} (hob : ∀ id z, ob id = some z -> g id = some z) (p : Nat) : zcg P base M W nt f g c o a w (zun T std p t ob) := by
 unfold zun
 split
 · rename_i i hi
   split
   · split
     · rename_i ty sz n len get hg
       have hg := hob _ _ hg
       split
       · rename_i h1 h2 h3 h4
         obtain rfl := za1 h1
         obtain rfl := za1 h2
         have h3 := za1 h3
         rw [zai] at h3
         obtain ⟨z, z1, z2, z3, z4⟩ := (hT ty i hi).zeroV
         have run : (execOp a.eval o).run P w = .ok (.value (.pointer (some ⟨w.heap.size, 0, none⟩))) (w.alloc (.cells z.cells ty)) := by
           unfold execOp
           rw [e]
           simp [Instr.alloc, z1, newVar, newRow]
         have r := z4 w.heap D μ
         intro K Q hK
         unfold Oper.wp
         rw [run]
         have hrow : ze6 (w.alloc (.cells z.cells ty)).heap D μ (.row ty i.sz 1 (fun _ j => zbb .dead i.zero j)) (some (w.heap.size, z.cells.size, 1)) :=
           zi0 h (by rw [<- r.1]; omega) z2 (fun i' j hi' hj => by
             have hx : i.zero[i' * i.sz + j]? = some (zbb .dead i.zero j) := by
               rw [show i' * i.sz + j = j by rw [show i' = 0 by omega]; omega]
               exact zal _ _ _ (by omega)
             have hlt : i' * i.sz + j < z.cells.size := by rw [<- r.1]; exact (List.getElem?_eq_some_iff.1 hx).1
             exact ⟨_, getD_some hlt, z2 _ _ (getD_some hlt), zdb (r.2 _ _ _ hx (getD_some hlt)) (zck h4 _ _ (zal _ _ _ (by omega)))⟩)
         have hmem := h.tbs.mem hg (k := n)
         rw [if_neg (Nat.lt_irrefl n)] at hmem
         obtain ⟨q1, q2, q3⟩ := zov (n' := n + 1) (len' := fun k => yai (za8 k n) 1 (len k)) (get' := fun k i' j => zer std (L2 std za8 k n) (zbb .dead i.zero j) (get k i' j)) h.tbs hg (k := n)
           (fun j hj => by omega) (fun j hj => by show cond (za8 j n) 1 (len j) = len j; rw [zak hj]; rfl) (fun j hj i' q hp D μ v r => yiz _ r _ _ hj)
         rw [if_pos (Nat.lt_succ_self n)] at q1
         have h1 := h.newG (zrk (h.tbs p _ hg).1 n) hmem (.row ty i.sz (yai (za8 n n) 1 (len n)) (fun i' j => zer std (L2 std za8 n n) (zbb .dead i.zero j) (get n i' j))) (.cells z.cells ty) z.cells.size 1 (by simp) q1 q2 q3 (by
           rw [za3]
           obtain ⟨_, cc, t', fr, k1, k2, k3, k4, k5⟩ := hrow
           refine ⟨rfl, cc, t', fr, k1, k2, k3, k4, fun i' j hi' hj => ?_⟩
           obtain ⟨v, v1, v2, v3⟩ := k5 i' j hi' hj
           exact ⟨v, v1, v2, by rw [show L2 std za8 n n = true from za3 n]; exact zch v3 _⟩)
         have hr := R.aer (h := (w.alloc (.cells z.cells ty)).heap) (D := D) (μ := fun id => if id = mid p n then some (some (w.heap.size, z.cells.size, 1)) else μ id) p n i.sz 0 0 w.heap.size z.cells.size 1 (by rw [if_pos rfl]) Nat.one_pos
         rw [Nat.zero_mul, Nat.zero_add] at hr
         exact hK _ _ ⟨_, _, h1.put hd hr⟩
       · trivial
     · trivial
   · trivial
 · trivial
theorem yfd (hT : zbw P T) {t : TypeId} {x : Operand} (e : o.op = .box t x) {vals : List AV} (hv : Ops w.heap D μ a [x] vals) : zcg P base M W nt f g c o a w (yv5 T std o.dst t (zds g o.op o.dst) vals) := by
 match vals, hv with
 | [v], ⟨hv, _⟩ =>
   unfold yv5
   simp only
   split
   · rename_i d hc
     obtain ⟨hn, hdst⟩ := zcl hc
     have hnew : g d = none := by
       simp only [zds, e, zd0, hdst] at hn
       cases hg : g d with
       | none => rfl
       | some _ => rw [hg] at hn; cases hn
     split
     · rename_i i hi
       split
       · rename_i hsz hs
         have hsz := za1 hsz
         rw [zai] at hsz
         have rc := zjf hv hs
         have hlen := rc.len
         have run : (execOp a.eval o).run P w = .ok (.value (.pointer (some ⟨w.heap.size, 0, none⟩))) (w.alloc (.cells (a.eval x).cells t)) := by
           unfold execOp
           rw [e]
           simp [Instr.box, newVar, newRow]
         have h1 : ones (a.eval x).cells := fun j u hu => by
           have hlt : j < v.cells.length := by rw [hlen]; have := (Array.getElem?_eq_some_iff.1 hu).1; simpa using this
           exact (rc.get j v.cells[j] u (by simp [hlt]) (by simpa using hu)).2
         have hr : RL w.heap D μ v.cells (a.eval x).cells := ⟨by rw [hlen]; simp, fun j y u hy hu => (rc.get j y u hy (by simpa using hu)).1⟩
         split
         · rename_i n e' esz hk
           split
           · rename_i hfr hne
             have hne := za1 hne
             refine zkl h hd hdst hnew _ t _ n (by simp) (zi0 h (by rw [<- hr.1]; omega) h1 (fun i' j hi' hj => ?_)) run (fun D' μ' hm => .ref _ _ _ _ _ hm)
             have hx := zf9 (cs := v.cells) (sz := esz) (n := n) (by omega) hi' hj
             have hlt : i' * esz + j < (a.eval x).cells.size := by rw [<- hr.1]; exact (List.getElem?_eq_some_iff.1 hx).1
             exact ⟨_, getD_some hlt, h1 _ _ (getD_some hlt), zdb (hr.2 _ _ _ hx (getD_some hlt)) (zck hfr _ _ hx)⟩
           · trivial
         · exact zkl h hd hdst hnew _ t (.box t v.cells) 0 (by simp) (yk4 h h1 hr) run (fun D' μ' hm => .ref _ _ _ _ _ hm)
       · trivial
     · trivial
   · trivial
end
end Sy
end Go.Proofs.YtfonekpmkdkgnaaGreatDoor
namespace Go.Proofs.YtfonekpmkdkgnaaGreatDoor
namespace Sy
open Go Go.RowKit
set_option linter.unusedSimpArgs false
set_option linter.unusedVariables false
theorem zc0 : ∀ {l : List Value} {C : Array Value} {n : Nat}, ones C -> (∀ v ∈ l, one v) -> ones (zb1 C n l)
 | [], C, n, h, _ => h
 | v :: l, C, n, h, h1 => zc0 (l := l) (C := C.setIfInBounds n v) (n := n + 1) (ones.set h (h1 v (by simp)) n) fun x hx => h1 x (by simp [hx])
theorem RLL.ones {h : Array Obj} {D : Nat -> Prop} {μ : Mu} {xs : List AV} {vs : List Value} (r : RLL h D μ xs vs) : ∀ v ∈ vs, one v := by
 intro v hv
 obtain ⟨i, hi⟩ := List.getElem?_of_mem hv
 have hlt := (List.getElem?_eq_some_iff.1 hi).1
 have hl := r.len
 exact (r.get i _ v (List.getElem?_eq_getElem (by omega)) hi).2
theorem ybv {z : Array Value} {n : Nat} (h : ones z) (hz : n = 0 \/ 0 < z.size) : ones (madeCells z n) := by
 intro i v hv
 have : v ∈ madeCells z n := Array.mem_of_getElem? hv
 simp only [madeCells, Array.mem_map, Array.mem_range] at this
 obtain ⟨q, hq, rfl⟩ := this
 have hlt : q % z.size < z.size := Nat.mod_lt _ (by omega)
 rw [getElem!_pos z _ hlt]
 exact h (q % z.size) _ (by simp [hlt])
theorem zdi (P : Program) (b o : Nat) (t : TypeId) (fr : Nat × Nat) : ∀ (vs : List Value) (i : Nat) (C : Array Value) (w : World), w.heap[b]? = some (.cells C t fr) -> yc2 C.size fr -> o + i + vs.length <= C.size -> (∀ v ∈ vs, one v) ->
   (storeCells ⟨b, o, none⟩ vs i).run P w = .ok () (w.setRow b (zb1 C (o + i) vs))
 | [], i, C, w, hg, _, _, _ => by
   simp only [storeCells, zb1]
   rw [setRow_self w b C t fr hg]
   rfl
 | v :: rest, i, C, w, hg, hf, hl, h1 => by
   have hi : o + i < C.size := by simp at hl; omega
   have hcell : w.cell? ⟨b, o + i, none⟩ = some C[o + i] := by simp [World.cell?, hg, hi]
   have hfro : w.frozen? ⟨b, o + i, none⟩ = false := by
     have := hf (o + i) hi
     simp only [World.frozen?, hg]
     simp only [Bool.and_eq_false_iff, decide_eq_false_iff_not]
     omega
   have hst : (store ((⟨b, o, none⟩ : Addr).add i) v).run P w = .ok () (w.setRow b (C.setIfInBounds (o + i) v)) := by
     rw [zba, run_store P w _ v _ (h1 v (by simp)), hcell]
     simp [hfro, setCell_eq_setRow w b (o + i) C t fr v hg]
   have ih := zdi P b o t fr rest (i + 1) (C.setIfInBounds (o + i) v) (w.setRow b (C.setIfInBounds (o + i) v)) (setRow_heap w b C _ t _ hg) (by simpa using hf) (by simp at hl |-; omega) (fun x hx => h1 x (by simp [hx]))
   simp only [storeCells, Sem.run_bind, hst, Result.andThen_ok, ih, setRow_setRow]
   rfl
theorem zgr (w : World) (b k : Nat) (C : Array Value) (hk : k ≠ b) : (w.setRow b C).heap[k]? = w.heap[k]? := by
 simp only [World.setRow, Array.getElem?_modify]
 rw [if_neg (fun e => hk e.symm)]
theorem zdj (w : World) (b : Nat) (C : Array Value) : (w.setRow b C).heap.size = w.heap.size := by simp [World.setRow]
theorem zfg {α : Type} : ∀ (ys xs : List α) (n : Nat), (zh0 xs n ys).length = xs.length
 | [], xs, n => rfl
 | y :: ys, xs, n => by rw [zh0, zfg ys, zm8, List.length_set]
theorem zaj : ∀ (l : List Value) (n : Nat) (C : Array Value) (k : Nat), k < C.size -> (zb1 C n l)[k]? = if n <= k /\ k < n + l.length then l[k - n]? else C[k]?
 | [], n, C, k, hk => by
   rw [if_neg (by simp only [List.length_nil]; omega), zb1]
 | x :: xs, n, C, k, hk => by
   rw [zb1, zaj xs (n + 1) _ k (by simpa using hk)]
   by_cases h1 : n = k
   · subst h1
     rw [if_neg (by omega), if_pos ⟨by omega, by simp⟩, Array.getElem?_setIfInBounds, if_pos rfl, if_pos hk]
     simp
   · by_cases h2 : n + 1 <= k /\ k < n + 1 + xs.length
     · rw [if_pos h2, if_pos ⟨by omega, by simp; omega⟩]
       obtain ⟨q, hq⟩ : ∃ q, k - n = q + 1 := ⟨k - n - 1, by omega⟩
       rw [hq, show k - (n + 1) = q by omega]
       rfl
     · rw [if_neg h2, if_neg (by simp; omega), Array.getElem?_setIfInBounds, if_neg h1]
theorem zk8 {α : Type} : ∀ (l C : List α) (n k : Nat), k < C.length -> (zh0 C n l)[k]? = if n <= k /\ k < n + l.length then l[k - n]? else C[k]?
 | [], C, n, k, hk => by
   rw [if_neg (by simp only [List.length_nil]; omega), zh0]
 | x :: xs, C, n, k, hk => by
   rw [zh0, zm8, zk8 xs _ (n + 1) k (by simpa using hk)]
   by_cases h1 : n = k
   · subst h1
     rw [if_neg (by omega), if_pos ⟨by omega, by simp⟩, List.getElem?_set, if_pos rfl, if_pos hk]
     simp
   · by_cases h2 : n + 1 <= k /\ k < n + 1 + xs.length
     · rw [if_pos h2, if_pos ⟨by omega, by simp; omega⟩]
       obtain ⟨q, hq⟩ : ∃ q, k - n = q + 1 := ⟨k - n - 1, by omega⟩
       rw [hq, show k - (n + 1) = q by omega]
       rfl
     · rw [if_neg h2, if_neg (by simp; omega), List.getElem?_set, if_neg h1]
theorem zrw {pl : Nat -> Option (Nat × Nat)} : ∀ (ps : List (Nat × Operand)) (vals : List AV) (cells : List AV) (cs : List AV), zrx pl cells ps vals = some cs -> cs.length = cells.length
 | [], [], cells, cs, e => by cases e; rfl
 | [], _ :: _, _, _, e => by cases e
 | (i, p) :: ps, [], _, _, e => by cases e
 | (i, p) :: ps, v :: vs, cells, cs, e => by
   simp only [zrx] at e
   split at e
   · split at e
     · split at e
       · rw [zrw ps vs _ cs e, zfg]
       · cases e
     · cases e
   · cases e
theorem ziy {k e off n k' e' j : Nat} {cs : List AV} {get : Nat -> Nat -> Nat -> AV} : ybs std k e off n cs get k' e' j = if off <= j /\ j < off + n then zer std (L2 std za8 k' k && L2 std za8 e' e) (zbb .dead cs (j - off)) (get k' e' j) else get k' e' j := by
 unfold ybs
 split
 · rename_i h1
   have h1 := zb3 h1
   split
   · rename_i h2
     rw [if_pos ⟨h1, zas h2⟩]
     rfl
   · rename_i h2
     rw [if_neg]
     rintro ⟨_, h3⟩
     rw [show zbg j (off + n) = true by rw [zbn]; exact h3] at h2
     cases h2
 · rename_i h1
   rw [if_neg]
   rintro ⟨h3, _⟩
   rw [show zbm off j = true by rw [zdz]; exact h3] at h1
   cases h1
theorem zl5 {e off n e' j : Nat} {cs : List AV} {get : Nat -> Nat -> AV} : over std e off n cs get e' j = if off <= j /\ j < off + n then zer std (za8 e' e) (zbb .dead cs (j - off)) (get e' j) else get e' j := by
 unfold over
 split
 · rename_i h1
   have h1 := zb3 h1
   split
   · rename_i h2
     rw [if_pos ⟨h1, zas h2⟩]
     rfl
   · rename_i h2
     rw [if_neg]
     rintro ⟨_, h3⟩
     rw [show zbg j (off + n) = true by rw [zbn]; exact h3] at h2
     cases h2
 · rename_i h1
   rw [if_neg]
   rintro ⟨h3, _⟩
   rw [show zbm off j = true by rw [zdz]; exact h3] at h1
   cases h1
section
variable {P : Program} {T : TT} {base : Nat} {M : Two} {W : World} {nt : Nat} {f : Nat -> Option AV} {g : Nat -> Option Ob} {c : Nat -> Bool} {a : Act} {w : World} {D : Nat -> Prop} {μ : Mu} {o : Oper}
theorem Sim.turnG (h : Sim base M W nt f g c a w D μ) {id b z m : Nat} {ob ob' : Ob} {w' : World} (hμ : μ id = some (some (b, z, m))) (hg : gx g id = some ob) (hne : ob ≠ .gone)
   (hc : c id = false) (hos : w'.os = w.os) (htape : w'.tape = w.tape) (hout : w'.output = w.output) (hsz : w'.heap.size = w.heap.size) (hother : ∀ k, k ≠ b -> w'.heap[k]? = w.heap[k]?)
   (hok : (∀ k, D k -> w'.heap[k]? = w.heap[k]?) -> ze6 w'.heap D μ ob' (some (b, z, m))) {g' : Nat -> Option Ob} (hgd : gx g' id = some ob') (hgs : ∀ i, i ≠ id -> znt g g' i) (ht : zik g') :
   Sim base M W nt f g' c a w' D μ := by
 have hnD : ¬ D b := (h.kdx id b (z, m) ob hμ hg hne).2 hc
 have hDk : ∀ k, D k -> w'.heap[k]? = w.heap[k]? := fun k hk => hother k (by rintro rfl; exact hnD hk)
 exact {
   os := hos.trans h.os, tape := htape.trans h.tape, output := hout.trans h.output
   size := by rw [hsz]; exact h.size
   bs := by rw [hsz]; exact h.bs
   old := fun k h1 h2 => by
     rw [hother k (by
       rintro rfl
       rcases (h.own id k _ hμ).2 with h3 | h3
       · omega
       · exact h2 h3)]
     exact h.old k h1 h2
   defers := h.defers, tmps := h.tmps
   slots := fun s v hv => (h.slots s v hv).mono hDk (fun _ h => h) (fun _ _ h => h)
   dlt := fun k hk => by rw [hsz]; exact h.dlt k hk
   low := h.low
   domx := fun i => by
     by_cases e : i = id
     · subst e; simp [hμ, hgd]
     · exact h.domS (hgs i e)
   obsx := fun i o' x h1 h2 => by
     by_cases e : i = id
     · subst e
       rw [hgd] at h1; cases h1
       rw [hμ] at h2; cases h2
       exact hok hDk
     · obtain ⟨o0, h3, _, _, h4⟩ := (hgs i e).live h1
       refine h4 _ _ _ _ ((h.obsx i o0 x h3 h2).mono hDk (fun _ h => h) (fun _ _ h => h) (fun b' z' hx hne2 => hother b' ?_))
       rintro rfl
       subst hx
       exact e (h.injx i id b' z' (z, m) o0 ob h2 hμ h3 hg hne2 hne)
   injx := fun i i' b1 z1 z2 o1 o2 h1 h2 h3 h4 h5 h6 => by
     have k3 : ∃ o, gx g i = some o /\ o ≠ .gone := by
       by_cases e : i = id
       · subst e; exact ⟨ob, hg, hne⟩
       · obtain ⟨o0, q1, q2, _⟩ := (hgs i e).live h3
         exact ⟨o0, q1, q2 h5⟩
     have k4 : ∃ o, gx g i' = some o /\ o ≠ .gone := by
       by_cases e : i' = id
       · subst e; exact ⟨ob, hg, hne⟩
       · obtain ⟨o0, q1, q2, _⟩ := (hgs i' e).live h4
         exact ⟨o0, q1, q2 h6⟩
     obtain ⟨p, p1, p2⟩ := k3
     obtain ⟨q, q1, q2⟩ := k4
     exact h.injx i i' b1 z1 z2 p q h1 h2 p1 q1 p2 q2
   own := fun i b1 z1 h1 => by rw [hsz]; exact h.own i b1 z1 h1
   kdx := fun i b1 z1 o1 h1 h2 h3 => by
     by_cases e : i = id
     · subst e; exact h.kdx i b1 z1 ob h1 hg hne
     · obtain ⟨o0, q1, q2, _⟩ := (hgs i e).live h2
       exact h.kdx i b1 z1 o0 h1 q1 (q2 h3)
   ntb := h.ntb
   pin := h.pin
   gl := h.gl
   tbs := ht
   icm := h.icm
   mems := h.mems
   icyx := fun i hi => by
     by_cases e : i = id
     · rw [e, hgd]; simp
     · exact (hgs i e).some (h.icyx i hi) }
theorem yqe (h : Sim base M W nt f g c a w D μ) {id : Nat} {y : Nat × Nat × Nat} {ob : Ob} (hμ : μ id = some (some y)) (hg : g id = some ob) : zar ob = false := by
 cases e : zar ob with
 | false => rfl
 | true => exact (yqj e (h.obs id ob _ hg hμ)).elim
theorem Sim.turn (h : Sim base M W nt f g c a w D μ) {id b z m : Nat} {ob ob' : Ob} {w' : World} (hμ : μ id = some (some (b, z, m))) (hg : g id = some ob) (hne : ob ≠ .gone) (_ : True)
   (hc : c id = false) (hos : w'.os = w.os) (htape : w'.tape = w.tape) (hout : w'.output = w.output) (hsz : w'.heap.size = w.heap.size) (hother : ∀ k, k ≠ b -> w'.heap[k]? = w.heap[k]?)
   (hok : (∀ k, D k -> w'.heap[k]? = w.heap[k]?) -> ze6 w'.heap D μ ob' (some (b, z, m))) (ht : zar ob' = false := by rfl) :
   Sim base M W nt f (zbe g [(id, ob')]) c a w' D μ := by
 have hlt := (h.tbs id _ hg).1
 have hgp := zkq (g := g) (o := ob') hlt ht (fun x hx => by rw [hg] at hx; cases hx; exact yqe h hμ hg)
 refine h.turnG hμ (h.tbs.up hg) hne hc hos htape hout hsz hother hok (by rw [hgp, if_pos rfl]) (fun i hi => .inl (by rw [hgp, if_neg hi])) (zjs h.tbs hlt (fun h => by rw [ht] at h; cases h))
theorem Sim.write (h : Sim base M W nt f g c a w D μ) {id b z m : Nat} {ob ob' : Ob} {C C' : Array Value} {t : TypeId} {fr : Nat × Nat} (hμ : μ id = some (some (b, z, m))) (hg : g id = some ob) (hne : ob ≠ .gone) (hne' : ob' ≠ .gone)
   (hc : c id = false) (hb : w.heap[b]? = some (.cells C t fr)) (hok : (∀ k, D k -> (w.setRow b C').heap[k]? = w.heap[k]?) -> ze6 (w.setRow b C').heap D μ ob' (some (b, z, m))) (ht : zar ob' = false := by rfl) :
   Sim base M W nt f (zbe g [(id, ob')]) c a (w.setRow b C') D μ :=
 h.turn hμ hg hne trivial hc rfl rfl rfl (zdj w b C') (fun k hk => zgr w b k C' hk) hok ht
theorem Sim.writeT (h : Sim base M W nt f g c a w D μ) {p k b z m : Nat} {ty sz n : Nat} {len : Nat -> Nat} {get get' : Nat -> Nat -> Nat -> AV} {C' : Array Value} (hμ : μ (mid p k) = some (some (b, z, m))) (hg : g p = some (.tab ty sz n len get))
   (hget : ∀ j, j ≠ k -> ∀ i q h D μ v, R h D μ (get j i q) v -> R h D μ (get' j i q) v) (hok : (∀ k, D k -> (w.setRow b C').heap[k]? = w.heap[k]?) -> ze6 (w.setRow b C').heap D μ (.row ty sz (len k) (get' k)) (some (b, z, m))) :
   Sim base M W nt f (zbe g [(p, .tab ty sz n len get')]) c a (w.setRow b C') D μ := by
 obtain ⟨hk, hrow⟩ := zow h hg hμ
 have h1 := h.tbs.mem hg (k := k)
 rw [if_pos hk] at h1
 obtain ⟨q1, q2, q3⟩ := zov (n' := n) (len' := len) (get' := get') h.tbs hg (k := k) (fun _ _ => Iff.rfl) (fun _ _ => rfl) hget
 rw [if_pos hk] at q1
 have hcm : c (mid p k) = false := h.icm _ (zff (h.tbs p _ hg).1 k).1
 exact h.turnG (w' := w.setRow b C') hμ h1 (by simp) hcm rfl rfl rfl (zdj w b C') (fun k hk => zgr w b k C' hk) hok q1 q2 q3
variable (h : Sim base M W nt f g c a w D μ) (hd : ∀ d, o.dst = some d -> d < nt)
include h hd
theorem yan (hT : zbw P T) {t n : Nat} {ps : Array (Nat × Operand)} (e : o.op = .buildSlice t n ps) {vals : List AV} (hv : Ops w.heap D μ a (ps.toList.map Prod.snd) vals) {ob : Nat -> Option Ob} (hob : ∀ id z, ob id = some z -> g id = some z) :
   zcg P base M W nt f g c o a w (ynj T std o.dst t n ps.toList vals ob (zds g o.op o.dst)) := by
 unfold ynj
 split
 · rename_i d hc
   obtain ⟨hn, hdst⟩ := zcl hc
   have hnew : g d = none := by
     simp only [zds, e, zd0, hdst] at hn
     cases hg : g d with
     | none => rfl
     | some _ => rw [hg] at hn; cases hn
   split
   · rename_i i hi
     split
     · rename_i e' esz eb hk
       have ok := (hT t i hi).k
       rw [hk] at ok
       obtain ⟨ok1, ok2⟩ := ok
       obtain ⟨ei', hei', hes⟩ := Option.map_eq_some_iff.1 ok2
       simp only [Prod.mk.injEq] at hes
       split
       · rename_i ei hei
         have oke := hT e' ei hei
         obtain ⟨ii, z, i1, i2, i3, i4, i5, i6⟩ := oke.info
         rw [hei'] at i1
         cases i1
         split
         · rename_i vals' hvals
           cases hle : zbm (n * esz) 16777216 with
           | false => rw [hle] at hvals; cases hvals
           | true =>
             rw [hle] at hvals
             have hle := zb3 hle
             split
             · rename_i cs hcs
               cases hs : zfv vals' with
               | false => rw [hs] at hcs; cases hcs
               | true =>
                 rw [hs] at hcs
                 obtain ⟨l1, l2, l3⟩ := zl9 h hob hvals (ids := ze8 vals) (fun _ h => h)
                 have h' := h.freeze (ze8 vals) l2
                 have hp : ∀ (qs : List (Nat × Operand)) (xs xs' : List AV), Ops w.heap D μ a (qs.map Prod.snd) xs -> xs'.length = xs.length -> (∀ (i : Nat) x x' v, xs[i]? = some x -> xs'[i]? = some x' -> R w.heap D μ x v -> R w.heap (DF D μ (ze8 vals)) zam x' v) ->
                     yeo w.heap (DF D μ (ze8 vals)) zam a qs xs' := by
                   intro qs
                   induction qs with
                   | nil => intro xs xs' hv hl hr; cases xs with
                     | nil => cases xs' with
                       | nil => exact trivial
                       | cons _ _ => simp at hl
                     | cons _ _ => exact hv.elim
                   | cons q qs ih => intro xs xs' hv hl hr; cases xs with
                     | nil => exact hv.elim
                     | cons x xs => cases xs' with
                       | nil => simp at hl
                       | cons x' xs' => exact ⟨hr 0 x x' _ rfl rfl hv.1, ih xs xs' hv.2 (by simpa using hl) (fun i y y' v hy hy' r => hr (i + 1) y y' v (by simpa using hy) (by simpa using hy') r)⟩
                 have hsz : z.cells.size = esz := by rw [i5, <- i2, hes.1]
                 have hzl : ei.zero.length = esz := by rw [(i6 w.heap D μ).1, hsz]
                 obtain ⟨C0, hC0⟩ : ∃ C0, C0 = (Array.range (n * esz)).map (fun q => z.cells[q % z.cells.size]!) := ⟨_, rfl⟩
                 have hC0s : C0.size = n * esz := by rw [hC0]; simp
                 have hget : ∀ q, q < n * esz -> C0[q]? = some (z.cells.getD (q % esz) undef) /\ q % esz < z.cells.size /\ (zel ei.zero n)[q]? = ei.zero[q % esz]? := by
                   intro q hq
                   have h0 : 0 < esz := by
                     rcases Nat.eq_zero_or_pos esz with h0 | h0
                     · rw [h0] at hq; omega
                     · exact h0
                   have h1 := Nat.mod_lt q h0
                   refine ⟨?_, by omega, ?_⟩
                   · rw [hC0]
                     have h2 : q % esz < z.cells.size := by omega
                     simp [hq, hsz, h2]
                     rw [getElem!_pos z.cells _ h2]
                     simp [h2]
                   · have := zib ei.zero n (q / esz) (q % esz) (Nat.div_lt_of_lt_mul (by rw [Nat.mul_comm]; exact hq)) (by omega)
                     rw [hzl] at this
                     rw [<- this]
                     congr 1
                     rw [Nat.mul_comm]; exact (Nat.div_add_mod q esz).symm
                 have r0 : RL w.heap (DF D μ (ze8 vals)) zam (zel ei.zero n) C0 := by
                   refine ⟨by rw [zg3, hzl, hC0s], fun q x v hx hv => ?_⟩
                   have hq : q < n * esz := by rw [<- hC0s]; exact (Array.getElem?_eq_some_iff.1 hv).1
                   obtain ⟨g1, g2, g3⟩ := hget q hq
                   rw [g1] at hv
                   cases hv
                   rw [g3] at hx
                   exact (i6 _ _ _).2 _ x _ hx (getD_some g2)
                 have o0 : ones C0 := by
                   intro q v hv
                   have hq : q < n * esz := by rw [<- hC0s]; exact (Array.getElem?_eq_some_iff.1 hv).1
                   obtain ⟨g1, g2, _⟩ := hget q hq
                   rw [g1] at hv
                   cases hv
                   exact i4 _ _ (getD_some g2)
                 obtain ⟨C', f1, f2, f3⟩ := zlb (h := w.heap) (D := DF D μ (ze8 vals)) (μ := zam) ps.toList vals' _ C0 cs hcs hs (hp _ _ _ hv l1 l3) r0 o0
                 have hCs : cs.length = n * esz := by
                   rw [zrw ps.toList vals' _ cs hcs, zg3, hzl]
                 have run : (execOp a.eval o).run P w = .ok (.value (.slice (some ⟨w.heap.size, 0, none⟩) n n)) (w.alloc (.cells C' e')) := by
                   unfold execOp
                   rw [e]
                   have hso : ∀ w', (sizeOf e').run P w' = .ok esz w' := fun w' => by simp [sizeOf, typeInfo, program, Sem.run, hei', hes.1]
                   have hzv : ∀ w', (zeroValue e').run P w' = .ok z w' := fun w' => by simp [zeroValue, typeInfo, program, Sem.run, hei', i3]
                   have hf := f1
                   have hlim : ¬ (n * esz > 2 ^ 24) := by omega
                   by_cases h0 : n * esz = 0
                   · have hC00 : C0 = #[] := by apply Array.eq_empty_of_size_eq_zero; omega
                     have h00 : Array.map (fun _ => (default : Value)) (Array.range 0) = C0 := by rw [hC00]; simp
                     simp [Instr.buildSlice, run_underlying ok1, hso, h0, h00, hf, newRow]
                   · rw [hC0] at hf
                     simp only [Instr.buildSlice, Sem.run_bind, run_underlying ok1, Result.andThen_ok, hso, hlim, if_false, h0, hzv]
                     simp [hf, newRow, hzv]
                 have key := zkl h' hd hdst hnew C' e' (.row e' esz n (zjy std cs esz)) n (by simp) (zi0 h' (by rw [<- f2.1, hCs]; exact Nat.le_refl _) f3 (fun i' j hi' hj => by
                     have hx := zf9 (cs := cs) (sz := esz) (n := n) (by omega) hi' hj
                     have hlt : i' * esz + j < C'.size := by rw [<- f2.1]; exact (List.getElem?_eq_some_iff.1 hx).1
                     exact ⟨_, getD_some hlt, f3 _ _ (getD_some hlt), f2.2 _ _ _ hx (getD_some hlt)⟩))
                   (v := ykp n d esz) run (fun D' μ' hm => by
                     unfold ykp
                     split
                     · exact .emz _
                     · have := R.sl (h := (w.alloc (.cells C' e')).heap) (D := D') d esz 0 n w.heap.size C'.size n n hm (Nat.le_refl _) (by rw [<- f2.1, hCs]; simp) (by omega)
                       simpa using this)
                 exact key
             · trivial
         · trivial
       · trivial
     · trivial
   · trivial
 · trivial
theorem zxf (hT : zbw P T) {s t : TypeId} {x : Operand} (e : o.op = .convert s t x) (ht : zst T t = true) {vals : List AV} (hv : Ops w.heap D μ a [x] vals) :
   zcg P base M W nt f g c o a w (ye9 T std o.dst s t (zds g o.op o.dst) vals) := by
 match vals, hv with
 | [v], ⟨hx, _⟩ =>
   unfold ye9
   split
   · rename_i l he
     simp only [List.cons.injEq, and_true] at he
     subst he
     split
     · rename_i d hc
       obtain ⟨hn, hdst⟩ := zcl hc
       have hnew : g d = none := by
         simp only [zds, e, zd0, hdst] at hn
         cases hg : g d with
         | none => rfl
         | some _ => rw [hg] at hn; cases hn
       split
       · rename_i hs
         have hs' : P.underlying s = some .string := by
           unfold yqz at hs
           split at hs
           · rename_i i hi
             have := (hT s i hi).k
             split at hs
             · rename_i hk; rw [hk] at this; exact this
             · cases hs
           · cases hs
         obtain ⟨el, ht1, ht2, ht3⟩ : ∃ el, P.underlying t = some (.slice el) /\ P.underlying el = some (.int .u8) /\ yi0 T t = el := by
           unfold zst at ht
           split at ht
           · rename_i i hi
             have := (hT t i hi).k
             split at ht
             · rename_i hk; rw [hk] at this; exact ⟨_, this.1, zic hT ht, by simp [yi0, hi, hk]⟩
             · cases ht
           · cases ht
         obtain ⟨r, hr, hl⟩ := hx.inv_str
         have hrun := run_bytes_of_string (P := P) w s t el r hs' ht1 ht2
         have run : ∀ u w', (convert s t (a.eval x)).run P w = .ok u w' -> (execOp a.eval o).run P w = .ok (.value u) w' := by
           intro u w' hu; unfold execOp; rw [e]; simp [hu]
         have run := run _ _ (hr ▸ hrun)
         have hge := grownCap_ge w r.size 0 el
         have hrl : r.size = l.length := by rw [<- hl]; exact (Array.length_toList (xs := r.data)).symm
         generalize hC : bytesRow r (grownCap w r.size 0 el) = C at run
         have hds : r.data.size = r.size := rfl
         have hCs : C.size = grownCap w r.size 0 el := by rw [<- hC]; simp only [bytesRow, Array.size_append, Array.size_map, Array.size_replicate, hds]; omega
         rw [ht3]
         intro K Q hK
         unfold Oper.wp
         rw [run]
         have hnew' := h.drew.new (fr := (C.size, C.size + 1)) (hd _ hdst) hnew (.row el 1 l.length (fun i _ => .int .u8 (zbu l i))) C el l.length (by simp) (by
           refine ⟨rfl, C, el, _, heap_alloc_new _ _, rfl, ⟨?_, rfl, ?_, fun h => by omega⟩, by omega, fun i j hi hj => ?_⟩
           · intro o' ho hx; simp only at hx; omega
           · intro i v hv
             rw [<- hC] at hv
             have hv := Array.mem_of_getElem? hv
             simp only [bytesRow, Array.mem_append, Array.mem_map, Array.mem_replicate] at hv
             rcases hv with ⟨q, _, rfl⟩ | ⟨_, rfl⟩ <;> rfl
           · have hj0 : j = 0 := by omega
             subst hj0
             refine ⟨_, ?_, ?_, .int .u8 (zbu l i)⟩
             · rw [<- hC]
               have : i < r.data.size := by rw [show r.data.size = r.size from rfl, hrl]; exact hi
               simp only [bytesRow]
               rw [Array.getElem?_append_left (by simpa using this)]
               simp only [Nat.mul_one, Nat.add_zero]
               rw [Array.getElem?_map, Array.getElem?_eq_getElem this]
               simp only [Option.map_some, zbu, <- hl]
               simp
               rw [Array.getElem?_eq_getElem this]
               rfl
             · rfl)
         refine hK _ _ ⟨_, _, hnew'.put hd (v := .sl d 1 0 l.length) ?_⟩
         have := R.sl (h := (w.drew.alloc (.cells C el (C.size, C.size + 1))).heap) (D := D) (μ := fun id => if id = d then some (some (w.drew.heap.size, C.size, l.length)) else μ id) d 1 0 l.length w.heap.size C.size l.length (grownCap w r.size 0 el) (by simp) (by omega) (by omega) (by omega)
         simpa [hrl] using this
       · trivial
     · trivial
   · trivial
theorem zsy (hT : zbw P T) {t : Nat} {x y : Operand} (e : o.op = .makeSlice t x y) {vals : List AV} (hv : Ops w.heap D μ a [x, y] vals) :
   zcg P base M W nt f g c o a w (zuk T std o.dst t (zds g o.op o.dst) vals) := by
 match vals, hv with
 | [v, v'], ⟨hx, hy, _⟩ =>
   unfold zuk
   split
   · rename_i k n k' cp he
     simp only [List.cons.injEq, and_true] at he
     obtain ⟨rfl, rfl⟩ := he
     split
     · rename_i d hc
       obtain ⟨hn, hdst⟩ := zcl hc
       have hnew : g d = none := by
         simp only [zds, e, zd0, hdst] at hn
         cases hg : g d with
         | none => rfl
         | some _ => rw [hg] at hn; cases hn
       split
       · rename_i sz ag ze e' esz eb eqf p1 p2 p3 hi
         obtain ⟨ok1, ok2⟩ := (hT t _ hi).k
         obtain ⟨ei', hei', hes⟩ := Option.map_eq_some_iff.1 ok2
         simp only [Prod.mk.injEq] at hes
         split
         · rename_i ei hei
           obtain ⟨ii, z, i1, i2, i3, i4, i5, i6⟩ := (hT e' ei hei).info
           rw [hei'] at i1
           cases i1
           split
           · rename_i hfr
             intro hb
             have hb' : ((0 <= n /\ n <= cp) /\ (eb : Int) * cp <= 140737488355328) /\ cp <= 9223372036854775807 := by simpa [L3, std, yso] using hb
             obtain ⟨⟨⟨b1, b2⟩, b3⟩, b4⟩ := hb'
             have hr := run_make (P := P) w t e' ei' z ok1 hei' i3 k k' n cp b1 b2 (by rw [hes.2]; omega) b4
             have hsz : z.cells.size = esz := by rw [i5, <- i2, hes.1]
             have hzl : ei.zero.length = esz := by rw [(i6 w.heap D μ).1, hsz]
             have run : (execOp a.eval o).run P w = .ok (.value (.slice (some ⟨w.heap.size, 0, none⟩) n.toNat cp.toNat)) (w.alloc (.cells (madeCells z.cells (cp.toNat * ei'.size)) e')) := by
               unfold execOp
               rw [e]
               simp [hx.inv_int, hy.inv_int, hr]
             have hms : (madeCells z.cells (cp.toNat * ei'.size)).size = cp.toNat * esz := by simp [madeCells, hes.1]
             have hle : n.toNat * esz <= cp.toNat * esz := Nat.mul_le_mul_right _ (by omega)
             refine zkl h hd hdst hnew _ e' _ n.toNat (by simp) (zi0 h (by rw [hms]; exact hle) (ybv i4 (by rcases Nat.eq_zero_or_pos z.cells.size with h0 | h0; (left; rw [hes.1, <- hsz, h0, Nat.mul_zero]); exact .inr h0)) (fun i' j hi' hj => ?_)) run (fun D' μ' hm => ?_)
             · have hq : i' * esz + j < cp.toNat * esz := by
                 have h1 : (i' + 1) * esz <= n.toNat * esz := Nat.mul_le_mul_right _ hi'
                 rw [Nat.add_mul] at h1
                 omega
               have hmod : (i' * esz + j) % esz = j := by rw [Nat.mul_comm, Nat.mul_add_mod, Nat.mod_eq_of_lt hj]
               have h2 : j < z.cells.size := by omega
               refine ⟨z.cells.getD j undef, ?_, i4 _ _ (getD_some h2), zdb ((i6 w.heap D μ).2 j _ _ (zal .dead ei.zero j (by omega)) (getD_some h2)) (zck hfr _ _ (zal _ _ _ (by omega)))⟩
               simp [madeCells, hes.1, hq, hsz, hmod]
               rw [getElem!_pos z.cells _ h2]
               simp [h2]
             · have := R.sl (h := (w.alloc (.cells (madeCells z.cells (cp.toNat * ei'.size)) e')).heap) (D := D') d esz 0 n.toNat w.heap.size _ n.toNat cp.toNat hm (by omega) (by rw [hms]; simp) (by omega)
               simpa [std] using this
           · trivial
         · trivial
       · trivial
     · trivial
   · trivial
theorem zx1 (hT : zbw P T) {t : Nat} {x y : Operand} (e : o.op = .store t x y) {vals : List AV} (hv : Ops w.heap D μ a [x, y] vals) {ob : Nat -> Option Ob} (hob : ∀ id z, ob id = some z -> g id = some z) {ice : Nat -> Bool} (hice : ∀ id, ice id = false -> c id = false) :
   zcg P base M W nt f g c o a w (ydu T std t ob ice vals) := by
 match vals, hv with
 | [p, v], ⟨hp, hv, _⟩ =>
   unfold ydu
   simp only
   split
   · rename_i i hi
     have ok := hT t i hi
     split
     · rename_i hsz
       have hsz := za1 hsz
       rw [zai] at hsz
       have goD : zkm v = true -> ∀ (D' : Nat -> Prop) (ids : List Nat), Sim base M W nt f g (zjd c ids) a w D' μ -> ∀ (id b z m off : Nat) (ob0 ob' : Ob) (C : Array Value) (t' : TypeId) (fr : Nat × Nat), a.eval x = .pointer (some ⟨b, off, none⟩) -> μ id = some (some (b, z, m)) -> g id = some ob0 -> ob0 ≠ .gone -> ob' ≠ .gone /\ zar ob' = false -> zjd c ids id = false ->
           w.heap[b]? = some (.cells C t' fr) -> yc2 C.size fr -> off + i.sz <= C.size ->
           (RLL w.heap D μ v.cells (a.eval y).cells.toList -> (∀ k, D' k -> (w.setRow b (zb1 C off (a.eval y).cells.toList)).heap[k]? = w.heap[k]?) -> ze6 (w.setRow b (zb1 C off (a.eval y).cells.toList)).heap D' μ ob' (some (b, z, m))) ->
           Adv P base M W nt f g c o a w .dead [(id, ob')] ids := by
         intro hs D' ids h' id b z m off ob0 ob' C t' fr hx hμ hg hne hne' hc hb hf hfit hok
         have rc := zjf hv hs
         have hlen := rc.len
         have hst := zdi P b off t' fr (a.eval y).cells.toList 0 C w hb hf (by rw [<- hlen]; omega) (fun u hu => by
           obtain ⟨j, hj⟩ := List.getElem?_of_mem hu
           have hlt : j < v.cells.length := by rw [hlen]; exact (List.getElem?_eq_some_iff.1 hj).1
           exact (rc.get j v.cells[j] u (by simp [hlt]) hj).2)
         have run : (execOp a.eval o).run P w = .ok .skip (w.setRow b (zb1 C off (a.eval y).cells.toList)) := by
           unfold execOp
           rw [e]
           have hs2 : ¬ ((a.eval y).cells.size ≠ i.sz) := by
             have : (a.eval y).cells.toList.length = i.sz := by rw [<- hlen, hsz]
             simpa using this
           simp only [Nat.add_zero] at hst
           simp [hx, Instr.storeAt, Instr.sureAddr, storeVar, ok.sizeOf]
           rw [if_pos (by simpa using hs2)]
           simp [hst]
         intro K Q hK
         unfold Oper.wp
         rw [run]
         have h1 := h'.write (C' := zb1 C off (a.eval y).cells.toList) hμ hg hne hne'.1 hc hb (hok rc) hne'.2
         exact hK _ _ ⟨_, _, h1.put hd (.dead _)⟩
       have goT : zkm v = true -> ∀ (p k b z m off : Nat) (C : Array Value) (t' : TypeId) (fr : Nat × Nat) (ty sz n : Nat) (len : Nat -> Nat) (get get' : Nat -> Nat -> Nat -> AV), a.eval x = .pointer (some ⟨b, off, none⟩) -> μ (mid p k) = some (some (b, z, m)) -> g p = some (.tab ty sz n len get) ->
           (∀ j, j ≠ k -> ∀ i q h D μ v, R h D μ (get j i q) v -> R h D μ (get' j i q) v) -> w.heap[b]? = some (.cells C t' fr) -> yc2 C.size fr -> off + i.sz <= C.size ->
           (RLL w.heap D μ v.cells (a.eval y).cells.toList -> (∀ k, D k -> (w.setRow b (zb1 C off (a.eval y).cells.toList)).heap[k]? = w.heap[k]?) -> ze6 (w.setRow b (zb1 C off (a.eval y).cells.toList)).heap D μ (.row ty sz (len k) (get' k)) (some (b, z, m))) ->
           Adv P base M W nt f g c o a w .dead [(p, .tab ty sz n len get')] [] := by
         intro hs p k b z m off C t' fr ty sz n len get get' hx hμ hg hget hb hf hfit hok
         have rc := zjf hv hs
         have hlen := rc.len
         have hst := zdi P b off t' fr (a.eval y).cells.toList 0 C w hb hf (by rw [<- hlen]; omega) (fun u hu => by
           obtain ⟨j, hj⟩ := List.getElem?_of_mem hu
           have hlt : j < v.cells.length := by rw [hlen]; exact (List.getElem?_eq_some_iff.1 hj).1
           exact (rc.get j v.cells[j] u (by simp [hlt]) hj).2)
         have run : (execOp a.eval o).run P w = .ok .skip (w.setRow b (zb1 C off (a.eval y).cells.toList)) := by
           unfold execOp
           rw [e]
           have hs2 : ¬ ((a.eval y).cells.size ≠ i.sz) := by
             have : (a.eval y).cells.toList.length = i.sz := by rw [<- hlen, hsz]
             simpa using this
           simp only [Nat.add_zero] at hst
           simp [hx, Instr.storeAt, Instr.sureAddr, storeVar, ok.sizeOf]
           rw [if_pos (by simpa using hs2)]
           simp [hst]
         intro K Q hK
         unfold Oper.wp
         rw [run]
         have h1 := h.writeT (C' := zb1 C off (a.eval y).cells.toList) hμ hg hget (hok rc)
         exact hK _ _ ⟨_, _, h1.put hd (.dead _)⟩
       have go : zkm v = true -> ∀ (id b z m off : Nat) (ob0 ob' : Ob) (C : Array Value) (t' : TypeId) (fr : Nat × Nat), a.eval x = .pointer (some ⟨b, off, none⟩) -> μ id = some (some (b, z, m)) -> g id = some ob0 -> ob0 ≠ .gone -> ob' ≠ .gone /\ zar ob' = false -> c id = false ->
           w.heap[b]? = some (.cells C t' fr) -> yc2 C.size fr -> off + i.sz <= C.size ->
           (RLL w.heap D μ v.cells (a.eval y).cells.toList -> (∀ k, D k -> (w.setRow b (zb1 C off (a.eval y).cells.toList)).heap[k]? = w.heap[k]?) -> ze6 (w.setRow b (zb1 C off (a.eval y).cells.toList)).heap D μ ob' (some (b, z, m))) ->
           Adv P base M W nt f g c o a w .dead [(id, ob')] [] := fun hs id b z m off ob0 ob' C t' fr hx hμ hg hne hne' hc => goD hs D [] (by rw [zf2]; exact h) id b z m off ob0 ob' C t' fr hx hμ hg hne hne' (by rw [zf2]; exact hc)
       cases hs : zkm v with
       | false => trivial
       | true =>
         simp only [cond_true]
         split
         · rename_i id off
           split
           · rename_i hic
             have hic := hice _ hic
             split
             · rename_i cs hg
               have hg := hob _ _ hg
               split
               · rename_i hle
                 have hle := zb3 hle
                 rw [zai] at hle
                 generalize hu : a.eval x = u at *
                 cases hp with
                 | ref _ _ b z m hμ =>
                   obtain ⟨C, t', fr, hh, hcs, hf, h1, e1, hr⟩ := h.obs id _ _ hg hμ
                   refine go hs id b z m off _ _ C t' fr rfl hμ hg (by simp) ⟨by simp, rfl⟩ hic hh (by rw [hcs]; exact hf.1) (by omega) (fun rc hD => ?_)
                   obtain ⟨w1, w2⟩ := zos off ⟨e1, hr⟩ h1 rc
                   exact ⟨_, t', fr, setRow_heap w b C _ t' fr hh, by rw [zap, hcs], hf, w2, w1.1, fun j x' v' hx' hv' => (w1.2 j x' v' hx' hv').mono hD (fun _ h => h) (fun _ _ h => h)⟩
               · trivial
             · rename_i ty sz n get hg
               have hg := hob _ _ hg
               split
               · rename_i hz hfr
                 have hz := za1 hz
                 generalize hu : a.eval x = u at *
                 cases hp with
                 | ref _ _ b z m hμ =>
                   obtain ⟨hm, C, t', fr, hh, hcs, hf, hle, hrow⟩ := h.obs id _ _ hg hμ
                   have key : ∀ get2 : Nat -> Nat -> AV, (∀ i' j, i' < n -> j < sz -> v.cells[i' * sz + j]? = some (get2 i' j)) -> Adv P base M W nt f g c o a w .dead [(id, .row ty sz n get2)] [] := by
                     intro get2 hget
                     refine go hs id b z m 0 _ _ C t' fr rfl hμ hg (by simp) ⟨by simp, rfl⟩ hic hh (by rw [hcs]; exact hf.1) (by omega) (fun rc hD => ?_)
                     refine ⟨hm, _, t', fr, setRow_heap w b C _ t' fr hh, by rw [zap, hcs], ⟨hf.1, hf.2.1, zc0 hf.2.2.1 rc.ones, hf.2.2.2⟩, hle, fun i' j hi' hj => ?_⟩
                     have hx' := hget i' j hi' hj
                     have hlt := (List.getElem?_eq_some_iff.1 hx').1
                     have hlen := rc.len
                     have hval : ((a.eval y).cells.toList)[i' * sz + j]? = some ((a.eval y).cells.toList[i' * sz + j]'(by omega)) := by simp
                     obtain ⟨q1, q2⟩ := rc.get _ _ _ hx' hval
                     refine ⟨_, ?_, q2, (zdb q1 (zck hfr _ _ hx')).mono hD (fun _ h => h) (fun _ _ h => h)⟩
                     rw [zaj _ _ _ _ (by omega), if_pos ⟨Nat.zero_le _, by omega⟩, Nat.sub_zero, hval]
                   split
                   · rename_i k get' hs1 _
                     have hs1 := za1 hs1
                     subst hs1
                     refine key _ (fun i' j hi' hj => ?_)
                     have hk : (AV.arr k get').cells.length = k := zhj _ _ _
                     have h0 : j = 0 := by omega
                     subst h0
                     show (zn8 get' 0 k)[i' * 1 + 0]? = some (get' i')
                     rw [zez, if_pos (by omega), Nat.zero_add, Nat.mul_one, Nat.add_zero]
                   · exact key _ (fun i' j hi' hj => zf9 (by omega) hi' hj)
               · trivial
             · rename_i cs hg
               have hg := hob _ _ hg
               split
               · rename_i hle
                 have hle := zb3 hle
                 rw [zai] at hle
                 generalize hu : a.eval x = u at *
                 cases hp with
                 | ref _ _ b z m hμ =>
                   obtain ⟨C, t', fr, hh, hcs, hf, hlz, hr⟩ := h.obs id _ _ hg hμ
                   refine go hs id b z m off _ _ C t' fr rfl hμ hg (by simp) ⟨by simp, rfl⟩ hic hh (by rw [hcs]; exact hf.1) (by omega) (fun rc hD => ?_)
                   have hlen := rc.len
                   refine ⟨_, t', fr, setRow_heap w b C _ t' fr hh, by rw [zap, hcs], hf, by rw [zfg]; exact hlz, fun j x' hx' => ?_⟩
                   have hj : j < cs.length := by rw [<- zfg v.cells cs off]; exact (List.getElem?_eq_some_iff.1 hx').1
                   obtain ⟨v0, v1, v2, v3⟩ := hr j cs[j] (by simp [hj])
                   have hjC := (Array.getElem?_eq_some_iff.1 v1).1
                   rw [zk8 v.cells cs off j hj] at hx'
                   rw [zaj _ _ _ _ hjC]
                   by_cases hin : off <= j /\ j < off + v.cells.length
                   · rw [if_pos hin] at hx'
                     rw [if_pos (by omega)]
                     have hval : ((a.eval y).cells.toList)[j - off]? = some ((a.eval y).cells.toList[j - off]'(by omega)) := by simp
                     obtain ⟨q1, q2⟩ := rc.get _ _ _ hx' hval
                     exact ⟨_, hval, q2, q1.mono hD (fun _ h => h) (fun _ _ h => h)⟩
                   · rw [if_neg hin] at hx'
                     rw [if_neg (by omega)]
                     rw [show cs[j]? = some cs[j] by simp [hj]] at hx'
                     cases hx'
                     exact ⟨v0, v1, v2, v3.mono hD (fun _ h => h) (fun _ _ h => h)⟩
               · trivial
             · trivial
           · trivial
         · rename_i id sz q off
           split
           · rename_i hic
             have hic := hice _ hic
             split
             · rename_i qq ty' sz' n get hg
               have hg := hob _ _ hg
               split
               · rename_i hsz'
                 obtain rfl := za1 hsz'
                 split
                 · rename_i hle
                   have hle := zb3 hle
                   split
                   rotate_left
                   · trivial
                   rename_i cs' himm
                   split
                   rotate_left
                   · trivial
                   rename_i hnot
                   obtain ⟨l1, l2, l3⟩ := zt6 h hob himm (ids := zhn v.cells) (fun _ h => h)
                   have h' := h.freeze (zhn v.cells) l2
                   have hic' : zjd c (zhn v.cells) id = false := by simp [zjd, hnot, hic]
                   generalize hu : a.eval x = u at *
                   cases hp with
                   | eref _ _ _ _ b z m hμ hq =>
                     obtain ⟨hm, C, t', fr, hh, hcs, hf, hle', hrow⟩ := h'.obs id _ _ hg hμ
                     have hqn : (q + 1) * sz <= n * sz := Nat.mul_le_mul_right _ (by omega)
                     rw [Nat.add_mul] at hqn
                     refine goD hs _ _ h' id b z m (q * sz + off) _ _ C t' fr rfl hμ hg (by simp) ⟨by simp, rfl⟩ hic' hh (by rw [hcs]; exact hf.1) (by omega) (fun rc hD => ?_)
                     refine ⟨hm, _, t', fr, setRow_heap w b C _ t' fr hh, by rw [zap, hcs], ⟨hf.1, hf.2.1, zc0 hf.2.2.1 rc.ones, hf.2.2.2⟩, hle', fun i' j hi' hj => ?_⟩
                     have hlen := rc.len
                     obtain ⟨y0, y1, y2, y3⟩ := hrow i' j hi' hj
                     have hin : i' * sz + j < C.size := (Array.getElem?_eq_some_iff.1 y1).1
                     rw [zl5]
                     by_cases hjr : off <= j /\ j < off + i.sz
                     · rw [if_pos hjr]
                       by_cases hqi : i' = q
                       · subst hqi
                         have hcell : v.cells[j - off]? = some (zbb .dead v.cells (j - off)) := zal _ _ _ (by omega)
                         have hcell' : cs'[j - off]? = some (zbb .dead cs' (j - off)) := zal _ _ _ (by omega)
                         have hval : ((a.eval y).cells.toList)[j - off]? = some ((a.eval y).cells.toList[j - off]'(by omega)) := by simp
                         obtain ⟨q1, q2⟩ := rc.get _ _ _ hcell hval
                         have q3 := l3 _ _ _ _ hcell hcell' q1
                         refine ⟨_, ?_, q2, ?_⟩
                         · rw [zaj _ _ _ _ hin, if_pos ⟨by omega, by omega⟩]
                           rw [show i' * sz + j - (i' * sz + off) = j - off by omega]
                           exact hval
                         · rw [za3]
                           exact zch (q3.mono hD (fun _ h => h) (fun _ _ h => h)) _
                       · refine ⟨y0, ?_, y2, ?_⟩
                         · rw [zaj _ _ _ _ hin, if_neg]
                           · exact y1
                           · rintro ⟨p1, p2⟩
                             have hlenz : (a.eval y).cells.toList.length = i.sz := by omega
                             rcases Nat.lt_or_gt_of_ne hqi with hlt | hgt
                             · have h3 : (i' + 1) * sz <= q * sz := Nat.mul_le_mul_right _ hlt
                               rw [Nat.add_mul] at h3
                               omega
                             · have h3 : (q + 1) * sz <= i' * sz := Nat.mul_le_mul_right _ hgt
                               rw [Nat.add_mul] at h3
                               omega
                         · rw [zak hqi]
                           exact zbj (y3.mono hD (fun _ h => h) (fun _ _ h => h)) _
                     · rw [if_neg hjr]
                       refine ⟨y0, ?_, y2, y3.mono hD (fun _ h => h) (fun _ _ h => h)⟩
                       rw [zaj _ _ _ _ hin, if_neg]
                       · exact y1
                       · rintro ⟨p1, p2⟩
                         have hlenz : (a.eval y).cells.toList.length = i.sz := by omega
                         by_cases hqi : i' = q
                         · subst hqi; omega
                         · rcases Nat.lt_or_gt_of_ne hqi with hlt | hgt
                           · have h3 : (i' + 1) * sz <= q * sz := Nat.mul_le_mul_right _ hlt
                             rw [Nat.add_mul] at h3
                             omega
                           · have h3 : (q + 1) * sz <= i' * sz := Nat.mul_le_mul_right _ hgt
                             rw [Nat.add_mul] at h3
                             omega
                 · trivial
               · trivial
             · rename_i ty' sz' n get hg
               have hg := hob _ _ hg
               split
               · split
                 · rename_i qq hsz' hqq
                   obtain rfl := za1 hsz'
                   split
                   · rename_i hle
                     have hle := zb3 hle
                     split
                     rotate_left
                     · trivial
                     rename_i cs' himm
                     split
                     rotate_left
                     · trivial
                     rename_i hnot
                     obtain ⟨l1, l2, l3⟩ := zt6 h hob himm (ids := zhn v.cells) (fun _ h => h)
                     have h' := h.freeze (zhn v.cells) l2
                     have hic' : zjd c (zhn v.cells) id = false := by simp [zjd, hnot, hic]
                     generalize hu : a.eval x = u at *
                     cases hp with
                     | eref _ _ _ _ b z m hμ hq =>
                       obtain ⟨hm, C, t', fr, hh, hcs, hf, hle', hrow⟩ := h'.obs id _ _ hg hμ
                       have hqn : (q + 1) * sz <= n * sz := Nat.mul_le_mul_right _ (by omega)
                       rw [Nat.add_mul] at hqn
                       refine goD hs _ _ h' id b z m (q * sz + off) _ _ C t' fr rfl hμ hg (by simp) ⟨by simp, rfl⟩ hic' hh (by rw [hcs]; exact hf.1) (by omega) (fun rc hD => ?_)
                       refine ⟨hm, _, t', fr, setRow_heap w b C _ t' fr hh, by rw [zap, hcs], ⟨hf.1, hf.2.1, zc0 hf.2.2.1 rc.ones, hf.2.2.2⟩, hle', fun i' j hi' hj => ?_⟩
                       have hlen := rc.len
                       obtain ⟨y0, y1, y2, y3⟩ := hrow i' j hi' hj
                       have hin : i' * sz + j < C.size := (Array.getElem?_eq_some_iff.1 y1).1
                       rw [zl5]
                       by_cases hjr : off <= j /\ j < off + i.sz
                       · rw [if_pos hjr]
                         by_cases hqi : i' = q
                         · subst hqi
                           have hcell : v.cells[j - off]? = some (zbb .dead v.cells (j - off)) := zal _ _ _ (by omega)
                           have hcell' : cs'[j - off]? = some (zbb .dead cs' (j - off)) := zal _ _ _ (by omega)
                           have hval : ((a.eval y).cells.toList)[j - off]? = some ((a.eval y).cells.toList[j - off]'(by omega)) := by simp
                           obtain ⟨q1, q2⟩ := rc.get _ _ _ hcell hval
                           have q3 := l3 _ _ _ _ hcell hcell' q1
                           refine ⟨_, ?_, q2, ?_⟩
                           · rw [zaj _ _ _ _ hin, if_pos ⟨by omega, by omega⟩]
                             rw [show i' * sz + j - (i' * sz + off) = j - off by omega]
                             exact hval
                           · rw [za3]
                             exact zch (q3.mono hD (fun _ h => h) (fun _ _ h => h)) _
                         · refine ⟨y0, ?_, y2, ?_⟩
                           · rw [zaj _ _ _ _ hin, if_neg]
                             · exact y1
                             · rintro ⟨p1, p2⟩
                               have hlenz : (a.eval y).cells.toList.length = i.sz := by omega
                               rcases Nat.lt_or_gt_of_ne hqi with hlt | hgt
                               · have h3 : (i' + 1) * sz <= q * sz := Nat.mul_le_mul_right _ hlt
                                 rw [Nat.add_mul] at h3
                                 omega
                               · have h3 : (q + 1) * sz <= i' * sz := Nat.mul_le_mul_right _ hgt
                                 rw [Nat.add_mul] at h3
                                 omega
                           · rw [zak hqi]
                             exact zbj (y3.free.mono hD (fun _ h => h) (fun _ _ h => h)) _
                       · rw [if_neg hjr]
                         refine ⟨y0, ?_, y2, y3.free.mono hD (fun _ h => h) (fun _ _ h => h)⟩
                         rw [zaj _ _ _ _ hin, if_neg]
                         · exact y1
                         · rintro ⟨p1, p2⟩
                           have hlenz : (a.eval y).cells.toList.length = i.sz := by omega
                           by_cases hqi : i' = q
                           · subst hqi; omega
                           · rcases Nat.lt_or_gt_of_ne hqi with hlt | hgt
                             · have h3 : (i' + 1) * sz <= q * sz := Nat.mul_le_mul_right _ hlt
                               rw [Nat.add_mul] at h3
                               omega
                             · have h3 : (q + 1) * sz <= i' * sz := Nat.mul_le_mul_right _ hgt
                               rw [Nat.add_mul] at h3
                               omega
                   · trivial
                 · trivial
               · split
                 · rename_i hsz'
                   obtain rfl := za1 hsz'
                   split
                   · rename_i hle
                     have hle := zb3 hle
                     split
                     rotate_left
                     · trivial
                     rename_i cs' himm
                     split
                     rotate_left
                     · trivial
                     rename_i hnot
                     obtain ⟨l1, l2, l3⟩ := zmg h hob himm (ids := zhn v.cells) (fun _ h => h)
                     have h' := h.freeze (zhn v.cells) l2
                     have hic' : zjd c (zhn v.cells) id = false := by simp [zjd, hnot, hic]
                     generalize hu : a.eval x = u at *
                     cases hp with
                     | eref _ _ _ _ b z m hμ hq =>
                       obtain ⟨hm, C, t', fr, hh, hcs, hf, hle', hrow⟩ := h'.obs id _ _ hg hμ
                       have hqn : (q + 1) * sz <= n * sz := Nat.mul_le_mul_right _ (by omega)
                       rw [Nat.add_mul] at hqn
                       refine goD hs _ _ h' id b z m (q * sz + off) _ _ C t' fr rfl hμ hg (by simp) ⟨by simp, rfl⟩ hic' hh (by rw [hcs]; exact hf.1) (by omega) (fun rc hD => ?_)
                       refine ⟨hm, _, t', fr, setRow_heap w b C _ t' fr hh, by rw [zap, hcs], ⟨hf.1, hf.2.1, zc0 hf.2.2.1 rc.ones, hf.2.2.2⟩, hle', fun i' j hi' hj => ?_⟩
                       have hlen := rc.len
                       obtain ⟨y0, y1, y2, y3⟩ := hrow i' j hi' hj
                       have hin : i' * sz + j < C.size := (Array.getElem?_eq_some_iff.1 y1).1
                       rw [zl5]
                       by_cases hjr : off <= j /\ j < off + i.sz
                       · rw [if_pos hjr]
                         by_cases hqi : i' = q
                         · subst hqi
                           have hcell : v.cells[j - off]? = some (zbb .dead v.cells (j - off)) := zal _ _ _ (by omega)
                           have hcell' : cs'[j - off]? = some (zbb .dead cs' (j - off)) := zal _ _ _ (by omega)
                           have hval : ((a.eval y).cells.toList)[j - off]? = some ((a.eval y).cells.toList[j - off]'(by omega)) := by simp
                           obtain ⟨q1, q2⟩ := rc.get _ _ _ hcell hval
                           have q3 := l3 _ _ _ _ hcell hcell' q1
                           refine ⟨_, ?_, q2, ?_⟩
                           · rw [zaj _ _ _ _ hin, if_pos ⟨by omega, by omega⟩]
                             rw [show i' * sz + j - (i' * sz + off) = j - off by omega]
                             exact hval
                           · rw [za3]
                             exact zch (q3.mono hD (fun _ h => h) (fun _ _ h => h)) _
                         · refine ⟨y0, ?_, y2, ?_⟩
                           · rw [zaj _ _ _ _ hin, if_neg]
                             · exact y1
                             · rintro ⟨p1, p2⟩
                               have hlenz : (a.eval y).cells.toList.length = i.sz := by omega
                               rcases Nat.lt_or_gt_of_ne hqi with hlt | hgt
                               · have h3 : (i' + 1) * sz <= q * sz := Nat.mul_le_mul_right _ hlt
                                 rw [Nat.add_mul] at h3
                                 omega
                               · have h3 : (q + 1) * sz <= i' * sz := Nat.mul_le_mul_right _ hgt
                                 rw [Nat.add_mul] at h3
                                 omega
                           · rw [zak hqi]
                             exact zbj (y3.mono hD (fun _ h => h) (fun _ _ h => h)) _
                       · rw [if_neg hjr]
                         refine ⟨y0, ?_, y2, y3.mono hD (fun _ h => h) (fun _ _ h => h)⟩
                         rw [zaj _ _ _ _ hin, if_neg]
                         · exact y1
                         · rintro ⟨p1, p2⟩
                           have hlenz : (a.eval y).cells.toList.length = i.sz := by omega
                           by_cases hqi : i' = q
                           · subst hqi; omega
                           · rcases Nat.lt_or_gt_of_ne hqi with hlt | hgt
                             · have h3 : (i' + 1) * sz <= q * sz := Nat.mul_le_mul_right _ hlt
                               rw [Nat.add_mul] at h3
                               omega
                             · have h3 : (q + 1) * sz <= i' * sz := Nat.mul_le_mul_right _ hgt
                               rw [Nat.add_mul] at h3
                               omega
                   · trivial
                 · trivial
             · trivial
           · trivial
         · rename_i p k sz q off
           split
           · split
             · rename_i ty sz' n len get hg
               have hg := hob _ _ hg
               split
               · rename_i hsz'
                 obtain rfl := za1 hsz'
                 split
                 · rename_i hle
                   have hle := zb3 hle
                   split
                   rotate_left
                   · trivial
                   rename_i hfr
                   generalize hu : a.eval x = u at *
                   cases hp with
                   | aer _ _ _ _ _ b z m hμ hq =>
                     obtain ⟨hkn, hm, C, t', fr, hh, hcs, hf, hle', hrow⟩ := zow h hg hμ
                     have hqn : (q + 1) * sz <= len k * sz := Nat.mul_le_mul_right _ (by omega)
                     rw [Nat.add_mul] at hqn
                     refine goT hs p k b z m (q * sz + off) C t' fr ty sz n len get _ rfl hμ hg (fun j hj i' q' hp D2 μ2 v2 r => ?_) hh (by rw [hcs]; exact hf.1) (by omega) (fun rc hD => ?_)
                     · rw [ziy]
                       split
                       · rw [show (L2 std za8 j k) = false from zak hj, Bool.false_and]
                         exact zbj r _
                       · exact r
                     refine ⟨hm, _, t', fr, setRow_heap w b C _ t' fr hh, by rw [zap, hcs], ⟨hf.1, hf.2.1, zc0 hf.2.2.1 rc.ones, hf.2.2.2⟩, hle', fun i' j hi' hj => ?_⟩
                     have hlen := rc.len
                     obtain ⟨y0, y1, y2, y3⟩ := hrow i' j hi' hj
                     have hin : i' * sz + j < C.size := (Array.getElem?_eq_some_iff.1 y1).1
                     rw [ziy, show (L2 std za8 k k) = true from za3 k, Bool.true_and]
                     by_cases hjr : off <= j /\ j < off + i.sz
                     · rw [if_pos hjr]
                       by_cases hqi : i' = q
                       · subst hqi
                         have hcell : v.cells[j - off]? = some (zbb .dead v.cells (j - off)) := zal _ _ _ (by omega)
                         have hval : ((a.eval y).cells.toList)[j - off]? = some ((a.eval y).cells.toList[j - off]'(by omega)) := by simp
                         obtain ⟨q1, q2⟩ := rc.get _ _ _ hcell hval
                         have q3 := zdb q1 (zck hfr _ _ hcell)
                         refine ⟨_, ?_, q2, ?_⟩
                         · rw [zaj _ _ _ _ hin, if_pos ⟨by omega, by omega⟩]
                           rw [show i' * sz + j - (i' * sz + off) = j - off by omega]
                           exact hval
                         · rw [show (L2 std za8 i' i') = true from za3 i']
                           exact zch (q3.mono hD (fun _ h => h) (fun _ _ h => h)) _
                       · refine ⟨y0, ?_, y2, ?_⟩
                         · rw [zaj _ _ _ _ hin, if_neg]
                           · exact y1
                           · rintro ⟨p1, p2⟩
                             have hlenz : (a.eval y).cells.toList.length = i.sz := by omega
                             rcases Nat.lt_or_gt_of_ne hqi with hlt | hgt
                             · have h3 : (i' + 1) * sz <= q * sz := Nat.mul_le_mul_right _ hlt
                               rw [Nat.add_mul] at h3
                               omega
                             · have h3 : (q + 1) * sz <= i' * sz := Nat.mul_le_mul_right _ hgt
                               rw [Nat.add_mul] at h3
                               omega
                         · rw [show (L2 std za8 i' q) = false from zak hqi]
                           exact zbj (y3.mono hD (fun _ h => h) (fun _ _ h => h)) _
                     · rw [if_neg hjr]
                       refine ⟨y0, ?_, y2, y3.mono hD (fun _ h => h) (fun _ _ h => h)⟩
                       rw [zaj _ _ _ _ hin, if_neg]
                       · exact y1
                       · rintro ⟨p1, p2⟩
                         have hlenz : (a.eval y).cells.toList.length = i.sz := by omega
                         by_cases hqi : i' = q
                         · subst hqi; omega
                         · rcases Nat.lt_or_gt_of_ne hqi with hlt | hgt
                           · have h3 : (i' + 1) * sz <= q * sz := Nat.mul_le_mul_right _ hlt
                             rw [Nat.add_mul] at h3
                             omega
                           · have h3 : (q + 1) * sz <= i' * sz := Nat.mul_le_mul_right _ hgt
                             rw [Nat.add_mul] at h3
                             omega
                 · trivial
               · trivial
             · trivial
           · trivial
         · rename_i id off n q
           split
           · rename_i hic
             have hic := hice _ hic
             split
             · rename_i ty cs hg
               have hg := hob _ _ hg
               split
               · rename_i x0 hcells hle
                 have hle := zb3 hle
                 rw [zai] at hle
                 have hs1 : i.sz = 1 := by rw [<- hsz, hcells]; rfl
                 generalize hu : a.eval x = u at *
                 cases hp with
                 | bidx _ _ _ _ b z m hμ hq =>
                   obtain ⟨C, t', fr, hh, hcs, hf, h1, e1, hr⟩ := h.obs id _ _ hg hμ
                   refine go hs id b z m (off + q) _ _ C t' fr rfl hμ hg (by simp) ⟨by simp, rfl⟩ hic hh (by rw [hcs]; exact hf.1) (by omega) (fun rc hD => ?_)
                   have hlen := rc.len
                   have hone : (a.eval y).cells.toList.length = 1 := by omega
                   rw [hcells] at rc
                   have hval : (a.eval y).cells.toList[0]? = some ((a.eval y).cells.toList[0]'(by omega)) := by simp
                   obtain ⟨q1, q2⟩ := rc.get 0 _ _ rfl hval
                   have hset : ∀ (l : List AV) (k j : Nat), (yiw std q x0 k l)[j]? = l[j]?.map fun z => zer std (za8 q (k + j)) x0 z := by
                     intro l
                     induction l with
                     | nil => intro k j; simp [yiw]
                     | cons z l ih =>
                       intro k j
                       cases j with
                       | zero => simp [yiw, L2, std]
                       | succ j => simp [yiw, ih, Nat.add_comm, Nat.add_left_comm]
                   have hsl : ∀ (l : List AV) (k : Nat), (yiw std q x0 k l).length = l.length := by
                     intro l
                     induction l with
                     | nil => intro k; rfl
                     | cons z l ih => intro k; simp [yiw, ih]
                   refine ⟨_, t', fr, setRow_heap w b C _ t' fr hh, by rw [zap, hcs], hf, fun j v hv => ?_, by rw [zfg, zap]; exact e1, fun j x' v' hx' hv' => ?_⟩
                   · have hjC : j < C.size := by have := (Array.getElem?_eq_some_iff.1 hv).1; rwa [zap] at this
                     rw [zaj _ _ _ _ hjC] at hv
                     split at hv
                     · have : j - (off + q) = 0 := by omega
                       rw [this, hval] at hv
                       cases hv; exact q2
                     · exact h1 j v hv
                   · have hjC : j < C.size := by have := (Array.getElem?_eq_some_iff.1 hv').1; rwa [zap] at this
                     rw [zaj _ _ _ _ hjC] at hv'
                     have hj : j < cs.length := by omega
                     rw [zk8 _ _ _ _ hj, hsl, zaz, zbf, List.length_take, List.length_drop, Nat.min_eq_left (by omega)] at hx'
                     by_cases hin : off <= j /\ j < off + n
                     · rw [if_pos hin, hset, List.getElem?_take, if_pos (by omega), List.getElem?_drop, show off + (j - off) = j by omega, List.getElem?_eq_getElem hj, Option.map_some, Nat.zero_add] at hx'
                       cases hx'
                       by_cases hjq : j = off + q
                       · rw [if_pos (by omega)] at hv'
                         rw [show j - (off + q) = 0 by omega, hval] at hv'
                         cases hv'
                         rw [show j - off = q by omega, za3]
                         exact (zch q1 _).mono hD (fun _ h => h) (fun _ _ h => h)
                       · rw [if_neg (by omega)] at hv'
                         rw [zak (by omega : ¬ q = j - off)]
                         exact (zbj (hr j cs[j] v' (by simp [hj]) hv') _).mono hD (fun _ h => h) (fun _ _ h => h)
                     · rw [if_neg hin] at hx'
                       rw [if_neg (by omega)] at hv'
                       exact (hr j x' v' hx' hv').mono hD (fun _ h => h) (fun _ _ h => h)
               · trivial
             · trivial
           · trivial
         · trivial
     · trivial
   · trivial
end
end Sy
end Go.Proofs.YtfonekpmkdkgnaaGreatDoor
namespace Go.Proofs.YtfonekpmkdkgnaaGreatDoor
namespace Sy
open Go Go.RowKit
set_option linter.unusedSimpArgs false
set_option linter.unusedVariables false
section
variable {P : Program}
def yo9 (P : Program) (t : Nat) : Prop := (∃ e, P.underlying t = some (.slice e)) \/ P.underlying t = some .string
theorem zc5 (w : World) (t t' ty e : TypeId) (i : TypeInfo) (z : Value) (ht : P.underlying t = some (.slice e)) (ht' : yo9 P t') (hi : P.info? e = some i) (hz : i.zero = some z)
   (base : Option Addr) (sLen sCap : Nat) (x : Value) (m : Nat) (olds news : List Value) (ho : ∀ w', w'.heap = w.heap -> (Builtin.firstCells i.size sLen (.slice base sLen sCap)).run P w' = .ok olds.toArray w')
   (hn : ∀ w', w'.heap = w.heap -> (Builtin.firstCells i.size m x).run P w' = .ok news.toArray w') (hlx : (Builtin.lenOf x).run P w = .ok m w)
   (hg : sCap < sLen + m) (h63 : sLen + m <= 9223372036854775807) (hfit : Builtin.nextslicecap (sLen + m) sCap * i.bytes <= 281474976710656) :
   (Builtin.append_ #[t, t'] ty #[.slice base sLen sCap, x]).run P w =
     .ok (.slice (some ⟨w.heap.size, 0, none⟩) (sLen + m) (grownCap w (sLen + m) sCap e)) (w.drew.alloc (.cells (olds.toArray ++ news.toArray ++ Builtin.zeroCells z.cells (grownCap w (sLen + m) sCap e - (sLen + m))) e)) := by
 have hgt : ¬ (sLen + m <= sCap) := by omega
 have h63' : ¬ (9223372036854775807 < ((sLen : Int) + (m : Int))) := by omega
 have h48' : ¬ (281474976710656 < Builtin.nextslicecap (sLen + m) sCap * i.bytes) := by omega
 have hf := hn w.drew rfl
 have hfo := ho w.drew rfl
 rcases ht' with ⟨e', hd'⟩ | hd' <;> simp [Builtin.append_, run_underlying ht, run_underlying hd', sizeOf, typeInfo, zeroValue, hi, hz, hlx, hgt, h63', h48', Question.forced, hf, hfo, newRow, grownCap] <;> (congr 2; apply Array.ext'; simp [List.append_assoc])
theorem zd7 (w : World) (t t' ty e : TypeId) (i : TypeInfo) (ht : P.underlying t = some (.slice e)) (ht' : yo9 P t') (hi : P.info? e = some i)
   (base : Option Addr) (sLen sCap : Nat) (x : Value) (m : Nat) (news : List Value) (hn : ∀ w', w'.heap = w.heap -> (Builtin.firstCells i.size m x).run P w' = .ok news.toArray w') (hlx : (Builtin.lenOf x).run P w = .ok m w)
   (hg : sLen + m <= sCap) {w' : World} (hst : ∀ ad, base = some ad -> (storeCells (ad.add (sLen * i.size)) news).run P w = .ok () w') (hb : base = none -> w' = w) :
   (Builtin.append_ #[t, t'] ty #[.slice base sLen sCap, x]).run P w = .ok (.slice base (sLen + m) sCap) w' := by
 have hf := hn w rfl
 cases base with
 | some ad =>
   have hs := hst ad rfl
   rcases ht' with ⟨e', hd'⟩ | hd' <;> simp [Builtin.append_, run_underlying ht, run_underlying hd', sizeOf, typeInfo, hi, hlx, hg, hf, hs]
 | none =>
   obtain rfl := hb rfl
   rcases ht' with ⟨e', hd'⟩ | hd' <;> simp [Builtin.append_, run_underlying ht, run_underlying hd', sizeOf, typeInfo, hi, hlx, hg, hf]
variable {T : TT} {base : Nat} {M : Two} {W : World} {nt : Nat} {f : Nat -> Option AV} {g : Nat -> Option Ob} {c : Nat -> Bool} {a : Act} {w : World} {D : Nat -> Prop} {μ : Mu} {o : Oper}
theorem zj0 (hT : zbw P T) {t : Nat} (h : zde T t = true) : yo9 P t := by
 unfold zde at h
 split at h
 · rename_i i hi
   have ok := (hT t i hi).k
   split at h
   · rename_i hk; rw [hk] at ok; exact .inl ⟨_, ok.1⟩
   · rename_i hk; rw [hk] at ok; exact .inr ok
   · cases h
 · cases h
theorem zje (esz m b o' cap : Nat) (vs : Nat -> Nat -> Value) (hv : ∀ i j, i < m -> j < esz -> hcell w.heap b (o' + i * esz + j) = some (vs i j)) :
   ∃ news : List Value, news.length = m * esz /\ (∀ w', w'.heap = w.heap -> (Builtin.firstCells esz m (.slice (some ⟨b, o', none⟩) m cap)).run P w' = .ok news.toArray w') /\ (∀ i j, i < m -> j < esz -> news[i * esz + j]? = some (vs i j)) := by
 refine ⟨(List.range (m * esz)).map (fun q => vs (q / esz) (q % esz)), by simp, fun w' hw => ?_, fun i j hi hj => ?_⟩
 · have h1 := run_loadCells (P := P) w' ⟨b, o', none⟩ (m * esz) (fun q => vs (q / esz) (q % esz)) (fun q hq => by
     have h0 : 0 < esz := by
       rcases Nat.eq_zero_or_pos esz with h0 | h0
       · rw [h0] at hq; omega
       · exact h0
     rw [zba, zmw, hw]
     have := hv (q / esz) (q % esz) (Nat.div_lt_of_lt_mul (by rw [Nat.mul_comm]; exact hq)) (Nat.mod_lt _ h0)
     rw [Nat.add_assoc, show q / esz * esz + q % esz = q by rw [Nat.mul_comm]; exact Nat.div_add_mod q esz] at this
     exact this)
   simp [Builtin.firstCells, h1]
 · have hq : i * esz + j < m * esz := by
     have h1 : (i + 1) * esz <= m * esz := Nat.mul_le_mul_right _ hi
     rw [Nat.add_mul] at h1
     omega
   have e1 : (i * esz + j) / esz = i := by
     rw [Nat.mul_comm, Nat.mul_add_div (by omega), Nat.div_eq_of_lt hj]; omega
   have e2 : (i * esz + j) % esz = j := by rw [Nat.mul_comm, Nat.mul_add_mod, Nat.mod_eq_of_lt hj]
   simp [hq, e1, e2]
theorem zfr {cs : Array Value} {m sz i j : Nat} (hs : cs.size = sz) (hi : i < m) (hj : j < sz) : (Builtin.zeroCells cs m).toList[i * sz + j]? = some (cs.getD j undef) := by
 have hq : i * sz + j < m * sz := by
   have h1 : (i + 1) * sz <= m * sz := Nat.mul_le_mul_right _ hi
   rw [Nat.add_mul] at h1
   omega
 have hmod : (i * sz + j) % sz = j := by rw [Nat.mul_comm, Nat.mul_add_mod, Nat.mod_eq_of_lt hj]
 have hj' : j < cs.size := by omega
 simp [Builtin.zeroCells, hs, hq, hmod]
 rw [getElem!_pos cs _ hj']
 simp [hj']
theorem zgw {C : Array Value} {l m : List Value} {z : Array Value} (e : C = l.toArray ++ m.toArray ++ z) (h1 : ∀ v ∈ l, one v) (h2 : ∀ v ∈ m, one v) (h3 : ∀ v ∈ z.toList, one v) : ones C := by
 subst e
 intro i v hv
 have := Array.mem_of_getElem? hv
 simp only [Array.mem_append, List.mem_toArray] at this
 rcases this with (h | h) | h
 · exact h1 v h
 · exact h2 v h
 · exact h3 v (by simpa using h)
theorem zdk {l : List Value} {m sz : Nat} (hs : 0 < sz) (hl : l.length = m * sz) (h : ∀ i j, i < m -> j < sz -> ∃ v, l[i * sz + j]? = some v /\ one v) : ∀ v ∈ l, one v := by
 intro v hv
 obtain ⟨q, hq⟩ := List.getElem?_of_mem hv
 have hql : q < m * sz := by rw [<- hl]; exact (List.getElem?_eq_some_iff.1 hq).1
 obtain ⟨v', v1, v2⟩ := h (q / sz) (q % sz) (Nat.div_lt_of_lt_mul (by rw [Nat.mul_comm]; exact hql)) (Nat.mod_lt _ (by omega))
 rw [show q / sz * sz + q % sz = q by rw [Nat.mul_comm]; exact Nat.div_add_mod q sz, hq] at v1
 cases v1
 exact v2
theorem zoy (h : Sim base M W nt f g c a w D μ) {esz m : Nat} {ob : Nat -> Option Ob} (hob : ∀ id z, ob id = some z -> g id = some z) {x : AV} {src : Nat -> Nat -> AV} {u : Value} (e : zcs std esz ob x = some (m, src)) (r : R w.heap D μ x u) (hnx : ∀ id sz off n cap, x ≠ .slc id sz off n cap) (hnz : ∀ sz n get, x ≠ .lstx sz n get) :
   ∃ news : List Value, news.length = m * esz /\ (∀ w', w'.heap = w.heap -> (Builtin.firstCells esz m u).run P w' = .ok news.toArray w') /\ (Builtin.lenOf u).run P w = .ok m w /\
     ∀ i j, i < m -> j < esz -> ∃ v, news[i * esz + j]? = some v /\ one v /\ R w.heap D zam (src i j) v := by
 have empty : ∀ ad cap, m = 0 -> u = .slice ad 0 cap -> ∃ news : List Value, news.length = m * esz /\ (∀ w', w'.heap = w.heap -> (Builtin.firstCells esz m u).run P w' = .ok news.toArray w') /\ (Builtin.lenOf u).run P w = .ok m w /\
     ∀ i j, i < m -> j < esz -> ∃ v, news[i * esz + j]? = some v /\ one v /\ R w.heap D zam (src i j) v := by
   rintro ad cap rfl rfl
   refine ⟨[], by simp, fun w' hw => ?_, rfl, fun i j hi => by omega⟩
   cases ad with
   | none => simp [Builtin.firstCells]
   | some ad => simp [Builtin.firstCells, loadCells, loadCellsFrom]
 cases x with
 | slc id sz off n cap => exact absurd rfl (hnx id sz off n cap)
 | lstx sz n get => exact absurd rfl (hnz sz n get)
 | lst sz n get =>
   simp only [zcs] at e
   split at e
   · rename_i hsz
     obtain rfl := za1 hsz
     cases e
     cases r with
     | lst0 _ _ ad cap hn => exact empty _ _ rfl rfl
     | lst _ _ _ b o' cap vs hD hc hv h1 hr =>
       obtain ⟨news, n1, n2, n3⟩ := zje (P := P) (w := w) sz m b o' cap vs hv
       exact ⟨news, n1, n2, rfl, fun i j hi hj => ⟨_, n3 i j hi hj, h1 i j hi hj, hr i j hi hj⟩⟩
   · cases e
 | nils =>
   simp only [zcs] at e
   cases e
   cases r with
   | nils => exact empty _ _ rfl rfl
 | emp =>
   simp only [zcs] at e
   cases e
   cases r with
   | emp ad cap => exact empty _ _ rfl rfl
 | emz =>
   simp only [zcs] at e
   cases e
   cases r with
   | emz ad => exact empty _ _ rfl rfl
 | sl id sz off n =>
   simp only [zcs] at e
   split at e
   · rename_i hsz
     obtain rfl := za1 hsz
     split at e
     · rename_i sz' n' get hg
       have hg := hob _ _ hg
       split at e
       · rename_i hsz'
         obtain rfl := za1 hsz'
         cases e
         cases r with
         | slv => exact empty _ _ rfl rfl
         | sl0 => exact empty _ _ rfl rfl
         | sl _ _ _ _ b z q cap hμ hn hz ho =>
           obtain ⟨hm, C, t', fr, hh, hcs, _, hle, hrow⟩ := h.obs id _ _ hg hμ
           have key : ∀ i j, i < m -> j < sz -> ∃ y, C[off * sz + i * sz + j]? = some y /\ one y /\ R w.heap D zam (get (off + i) j) y := by
             intro i j h1 h2
             obtain ⟨y, y1, y2, y3⟩ := hrow (off + i) j (by omega) h2
             rw [Nat.add_mul] at y1
             exact ⟨y, y1, y2, y3⟩
           obtain ⟨news, n1, n2, n3⟩ := zje (P := P) (w := w) sz m b (off * sz) cap (fun i j => C.getD (off * sz + i * sz + j) undef) (fun i j h1 h2 => by
             obtain ⟨y, y1, _⟩ := key i j h1 h2
             rw [zb9 hh]; exact getD_some (Array.getElem?_eq_some_iff.1 y1).1)
           refine ⟨news, n1, n2, rfl, fun i j hi hj => ⟨_, n3 i j hi hj, ?_⟩⟩
           obtain ⟨y, y1, y2, y3⟩ := key i j hi hj
           rw [getD_some (Array.getElem?_eq_some_iff.1 y1).1] at y1
           cases y1
           exact ⟨y2, y3⟩
       · cases e
     · cases e
   · cases e
 | str l =>
   simp only [zcs] at e
   split at e
   · cases e
     obtain ⟨s, rfl, rfl⟩ := r.inv_str
     refine ⟨s.data.toList.map (fun b => .int .u8 b.toNat), by simp [std], fun w' hw => ?_, by simp [Builtin.lenOf, std], fun i j hi hj => ?_⟩
     · have e1 : (std List.length s.data.toList : Nat) = s.size := by simp [std]
       rw [e1]
       have e2 : (s.extract 0 s.size) = s := by
         apply ByteArray.ext
         simp
       simp only [Builtin.firstCells, Sem.run_pure, e2]
       congr 1
       apply Array.ext'
       simp
     · obtain rfl : j = 0 := by omega
       have hi' : i < s.data.size := by simpa [std] using hi
       have hb : s.data[i]? = some (s.data[i]) := Array.getElem?_eq_getElem hi'
       refine ⟨.int .u8 (s.data[i]).toNat, by simp [hb], rfl, ?_⟩
       have : zkv s.data.toList (zbh i) = ((s.data[i]).toNat : Int) := by
         simp [zkv, zbh, List.getD, hb]
       show R w.heap D zam (.int .u8 (zkv s.data.toList (zbh i))) _
       rw [this]
       exact .int _ _
   · cases e
 | _ => simp [zcs] at e
theorem zfu (h : Sim base M W nt f g c a w D μ) {esz m : Nat} {ob : Nat -> Option Ob} (hob : ∀ id z, ob id = some z -> g id = some z) {x : AV} {src : Nat -> Nat -> AV} {u : Value} (e : zcs std esz ob x = some (m, src)) (r : R w.heap D μ x u) :
   ∃ news : List Value, news.length = m * esz /\ (∀ w', w'.heap = w.heap -> (Builtin.firstCells esz m u).run P w' = .ok news.toArray w') /\ (Builtin.lenOf u).run P w = .ok m w /\
     ∀ i j, i < m -> j < esz -> ∃ v, news[i * esz + j]? = some v /\ one v /\ R w.heap D zam (src i j) v := by
 by_cases hx : ∃ id sz off n cap, x = .slc id sz off n cap
 · obtain ⟨id, sz, off, n, cap, rfl⟩ := hx
   exact zoy (x := .sl id sz off n) h hob e r.less (fun _ _ _ _ _ h => by cases h) (fun _ _ _ h => by cases h)
 · by_cases hy : ∃ sz n get, x = .lstx sz n get
   · obtain ⟨sz, n, get, rfl⟩ := hy
     exact zoy (x := .lst sz n get) h hob e r.lessx (fun _ _ _ _ _ h => by cases h) (fun _ _ _ h => by cases h)
   · exact zoy h hob e r (fun id sz off n cap h => hx ⟨id, sz, off, n, cap, h⟩) (fun sz n get h => hy ⟨sz, n, get, h⟩)
theorem zpv {n m esz : Nat} {get src : Nat -> Nat -> AV} {h : Array Obj} {D : Nat -> Prop} {C : Nat -> Option Value} (h1 : ∀ i j, i < n -> j < esz -> ∃ v, C (i * esz + j) = some v /\ one v /\ R h D zam (get i j) v)
   (h2 : ∀ i j, i < m -> j < esz -> ∃ v, C (n * esz + (i * esz + j)) = some v /\ one v /\ R h D zam (src i j) v) :
   ∀ i j, i < n + m -> j < esz -> ∃ v, C (i * esz + j) = some v /\ one v /\ R h D zam (zer std (L2 std zbg i n) (get i j) (src (L2 std Nat.sub i n) j)) v := by
 intro i j hi hj
 by_cases hin : i < n
 · obtain ⟨v, v1, v2, v3⟩ := h1 i j hin hj
   refine ⟨v, v1, v2, ?_⟩
   have : L2 std zbg i n = true := by show zbg i n = true; rw [zbn]; exact hin
   rw [this]
   exact zch v3 _
 · obtain ⟨v, v1, v2, v3⟩ := h2 (i - n) j (by omega) hj
   refine ⟨v, ?_, v2, ?_⟩
   · rw [<- Nat.add_assoc, <- Nat.add_mul, show n + (i - n) = i by omega] at v1
     exact v1
   · have : L2 std zbg i n = false := by
       show zbg i n = false
       cases e : zbg i n with
       | false => rfl
       | true => exact absurd (zas e) hin
     rw [this]
     exact zbj v3 _
theorem Sim.newNilG (h : Sim base M W nt f g c a w D μ) {d : Nat} (hlt : zcy d = false) (hd : gx g d = none) {ty sz : Nat} {get : Nat -> Nat -> AV} {g' : Nat -> Option Ob} (hgd : gx g' d = some (.row ty sz 0 get)) (hg : ∀ i, i ≠ d -> znt g g' i) (ht : zik g') :
   Sim base M W nt f g' c a w D (fun id => if id = d then some none else μ id) := by
 have hmd : μ d = none := (h.domx d).2 hd
 have hmm : ∀ id x, μ id = some x -> (if id = d then some none else μ id) = some x := by
   intro id x hx
   have : id ≠ d := by rintro rfl; rw [hmd] at hx; cases hx
   rw [if_neg this, hx]
 refine { h with slots := fun t v hv => (h.slots t v hv).mono (fun _ _ => rfl) (fun _ h => h) hmm, domx := fun id => ?_, obsx := fun id o' x h1 h2 => ?_, injx := ?_, own := ?_, kdx := ?_, icyx := ?_, pin := fun i y hp hy => ?_, tbs := ht, mems := fun id y h1 h2 => hmm _ _ (h.mems id y h1 h2) }
 rotate_right
 · by_cases e : i = d
   · rw [e, hlt] at hp; cases hp
   · rw [if_neg e] at hy; exact h.pin i y hp hy
 · by_cases e : id = d
   · rw [if_pos e, e, hgd]; simp
   · simp only [if_neg e]; exact h.domS (hg id e)
 · by_cases e : id = d
   · rw [if_pos e] at h2; rw [e, hgd] at h1; cases h1; cases h2; rfl
   · rw [if_neg e] at h2
     obtain ⟨o0, q1, _, _, q2⟩ := (hg id e).live h1
     exact q2 _ _ _ _ ((h.obsx id o0 x q1 h2).mono (fun _ _ => rfl) (fun _ h => h) hmm (fun _ _ _ _ => rfl))
 · intro id id' b z z' o1 o2 h1 h2 h3 h4 h5 h6
   by_cases e : id = d
   · rw [if_pos e] at h1; cases h1
   · by_cases e' : id' = d
     · rw [if_pos e'] at h2; cases h2
     · rw [if_neg e] at h1; rw [if_neg e'] at h2
       obtain ⟨p1, q1, r1, _⟩ := (hg id e).live h3
       obtain ⟨p2, q2, r2, _⟩ := (hg id' e').live h4
       exact h.injx id id' b z z' p1 p2 h1 h2 q1 q2 (r1 h5) (r2 h6)
 · intro id b z h1
   by_cases e : id = d
   · rw [if_pos e] at h1; cases h1
   · rw [if_neg e] at h1; exact h.own id b z h1
 · intro id b z o' h1 h2 h3
   by_cases e : id = d
   · rw [if_pos e] at h1; cases h1
   · rw [if_neg e] at h1
     obtain ⟨p1, q1, r1, _⟩ := (hg id e).live h2
     exact h.kdx id b z p1 h1 q1 (r1 h3)
 · intro id h1
   by_cases e : id = d
   · rw [e, hgd]; simp
   · exact (hg id e).some (h.icyx id h1)
theorem Sim.newNil (h : Sim base M W nt f g c a w D μ) {d : Nat} (hlt : zcy d = false) (hd : g d = none) (ty sz : Nat) (get : Nat -> Nat -> AV) (hb : d < zcn) :
   Sim base M W nt f (zbe g [(d, .row ty sz 0 get)]) c a w D (fun id => if id = d then some none else μ id) := by
 have hgp := zkq (g := g) (o := .row ty sz 0 get) hb rfl (fun x hx => by rw [hd] at hx; cases hx)
 exact h.newNilG hlt (by rw [zah (zb6.2 hb), hd]) (by rw [hgp, if_pos rfl]) (fun i hi => .inl (by rw [hgp, if_neg hi])) (zjs h.tbs hb (fun h => by cases h))
theorem Sim.gone (h : Sim base M W nt f g c a w D μ) {id : Nat} {ob : Ob} (hg : g id = some ob) (hnt : zar ob = false := by rfl) : Sim base M W nt f (zbe g [(id, .gone)]) c a w D μ := by
 have hgp := zkq (g := g) (o := .gone) (h.tbs id _ hg).1 rfl (fun x hx => by rw [hg] at hx; cases hx; exact hnt)
 refine { h with domx := fun i => ?_, obsx := fun i o' x h1 h2 => ?_, injx := ?_, kdx := ?_, icyx := ?_, tbs := zjs h.tbs (h.tbs id _ hg).1 (fun h => by cases h) }
 · rw [hgp]
   by_cases e : i = id
   · subst e
     rw [if_pos rfl]
     have := h.domx i
     rw [h.tbs.up hg] at this
     simpa using this
   · rw [if_neg e]; exact h.domx i
 · rw [hgp] at h1
   by_cases e : i = id
   · rw [if_pos e] at h1; cases h1
     cases x <;> exact trivial
   · rw [if_neg e] at h1; exact h.obsx i o' x h1 h2
 · intro i i' b z z' o1 o2 h1 h2 h3 h4 h5 h6
   rw [hgp] at h3 h4
   by_cases e : i = id
   · rw [if_pos e] at h3; cases h3; exact absurd rfl h5
   · by_cases e' : i' = id
     · rw [if_pos e'] at h4; cases h4; exact absurd rfl h6
     · rw [if_neg e] at h3; rw [if_neg e'] at h4
       exact h.injx i i' b z z' o1 o2 h1 h2 h3 h4 h5 h6
 · intro i b z o1 h1 h2 h3
   rw [hgp] at h2
   by_cases e : i = id
   · rw [if_pos e] at h2; cases h2; exact absurd rfl h3
   · rw [if_neg e] at h2; exact h.kdx i b z o1 h1 h2 h3
 · intro i hi
   rw [hgp]
   by_cases e : i = id
   · rw [if_pos e]; simp
   · rw [if_neg e]; exact h.icyx i hi
theorem Sim.goneFree (h : Sim base M W nt f g c a w D μ) {id b : Nat} {z : Nat × Nat} {ob : Ob} (hμ : μ id = some (some (b, z))) (hg : g id = some ob) (hne : ob ≠ .gone) (hnt : zar ob = false := by rfl) :
   ∀ i o2 z2, μ i = some (some (b, z2)) -> gx (zbe g [(id, .gone)]) i = some o2 -> o2 = .gone := by
 intro i o2 z2 k1 k2
 rw [zkq (g := g) (o := .gone) (h.tbs id _ hg).1 rfl (fun x hx => by rw [hg] at hx; cases hx; exact hnt)] at k2
 by_cases k3 : i = id
 · rw [if_pos k3] at k2; cases k2; rfl
 · rw [if_neg k3] at k2
   by_cases k4 : o2 = .gone
   · exact k4
   · exact absurd (h.injx id i b _ z2 _ o2 hμ k1 (h.tbs.up hg) k2 hne k4) (fun h => k3 h.symm)
theorem Sim.adopt (h : Sim base M W nt f g c a w D μ) {d : Nat} (hlt : zcy d = false) (hd : g d = none) (hdb : d < zcn) {b z m : Nat} (hb : b < w.heap.size) (hbase : base <= b \/ M.wr b) (hnD : ¬ D b) (hfree : ∀ i o z', μ i = some (some (b, z')) -> gx g i = some o -> o = .gone)
   {ob : Ob} (hne : ob ≠ .gone) (C' : Array Value) (hok : (∀ k, D k -> (w.setRow b C').heap[k]? = w.heap[k]?) -> ze6 (w.setRow b C').heap D μ ob (some (b, z, m))) (hnt : zar ob = false := by rfl) :
   Sim base M W nt f (zbe g [(d, ob)]) c a (w.setRow b C') D (fun id => if id = d then some (some (b, z, m)) else μ id) := by
 have hother : ∀ k, k ≠ b -> (w.setRow b C').heap[k]? = w.heap[k]? := fun k hk => zgr w b k C' hk
 have hDk : ∀ k, D k -> (w.setRow b C').heap[k]? = w.heap[k]? := fun k hk => hother k (by rintro rfl; exact hnD hk)
 have hdx : gx g d = none := by rw [zah (zb6.2 hdb), hd]
 have hmd : μ d = none := (h.domx d).2 hdx
 have hcd : c d = false := by
   cases e : c d with
   | false => rfl
   | true => exact absurd hdx (h.icyx d e)
 have hmm : ∀ id x, μ id = some x -> (if id = d then some (some (b, z, m)) else μ id) = some x := by
   intro id x hx
   have : id ≠ d := by rintro rfl; rw [hmd] at hx; cases hx
   rw [if_neg this, hx]
 have hgp := zkq (g := g) (o := ob) hdb hnt (fun x hx => by rw [hd] at hx; cases hx)
 exact {
   os := h.os, tape := h.tape, output := h.output
   size := by rw [zdj]; exact h.size
   bs := by rw [zdj]; exact h.bs
   old := fun k h1 h2 => by
     rw [hother k (by
       rintro rfl
       rcases hbase with h3 | h3
       · omega
       · exact h2 h3)]
     exact h.old k h1 h2
   defers := h.defers, tmps := h.tmps
   slots := fun s v hv => (h.slots s v hv).mono hDk (fun _ h => h) hmm
   dlt := fun k hk => by rw [zdj]; exact h.dlt k hk
   low := h.low
   domx := fun i => by
     rw [hgp]
     by_cases e : i = d
     · simp [e]
     · simp only [if_neg e]; exact h.domx i
   obsx := fun i o' x h1 h2 => by
     rw [hgp] at h1
     by_cases e : i = d
     · rw [if_pos e] at h1 h2; cases h1; cases h2
       exact (hok hDk).mono (fun _ _ => rfl) (fun _ h => h) hmm (fun _ _ _ _ => rfl)
     · rw [if_neg e] at h1 h2
       refine (h.obsx i o' x h1 h2).mono hDk (fun _ h => h) hmm (fun b' z' hx hne2 => hother b' ?_)
       rintro rfl
       subst hx
       exact hne2 (hfree i o' z' h2 h1)
   injx := fun i i' b1 z1 z2 o1 o2 h1 h2 h3 h4 h5 h6 => by
     rw [hgp] at h3 h4
     by_cases e : i = d
     · by_cases e' : i' = d
       · rw [e, e']
       · rw [if_pos e] at h1; rw [if_neg e'] at h2 h4
         cases h1
         exact absurd (hfree i' o2 z2 h2 h4) h6
     · by_cases e' : i' = d
       · rw [if_pos e'] at h2; rw [if_neg e] at h1 h3
         cases h2
         exact absurd (hfree i o1 z1 h1 h3) h5
       · rw [if_neg e] at h1 h3; rw [if_neg e'] at h2 h4
         exact h.injx i i' b1 z1 z2 o1 o2 h1 h2 h3 h4 h5 h6
   own := fun i b1 z1 h1 => by
     rw [zdj]
     by_cases e : i = d
     · rw [if_pos e] at h1; cases h1; exact ⟨hb, hbase⟩
     · rw [if_neg e] at h1; exact h.own i b1 z1 h1
   kdx := fun i b1 z1 o1 h1 h2 h3 => by
     rw [hgp] at h2
     by_cases e : i = d
     · rw [if_pos e] at h1; cases h1
       subst e
       exact ⟨fun hx => (by rw [hcd] at hx; cases hx), fun _ => hnD⟩
     · rw [if_neg e] at h1 h2; exact h.kdx i b1 z1 o1 h1 h2 h3
   ntb := h.ntb
   tbs := zjs h.tbs hdb (fun h => by rw [hnt] at h; cases h)
   icm := h.icm
   mems := fun id y h1 h2 => hmm _ _ (h.mems id y h1 h2)
   gl := h.gl
   pin := fun i y hp hy => by
     by_cases e : i = d
     · rw [e, hlt] at hp; cases hp
     · rw [if_neg e] at hy; exact h.pin i y hp hy
   icyx := fun i hi => by
     rw [hgp]
     by_cases e : i = d
     · rw [if_pos e]; simp
     · rw [if_neg e]; exact h.icyx i hi }
variable (h : Sim base M W nt f g c a w D μ) (hd : ∀ d, o.dst = some d -> d < nt)
include h hd
omit h hd in
theorem ykm {esz m : Nat} {ob : Nat -> Option Ob} {src : Nat -> Nat -> AV} {v : AV} (e : zcs std esz ob v = some (m, src)) : yti ob src v = src := by
 unfold yti
 split
 · rename_i id sz n
   split
   · rename_i ty sz' n' get hg
     simp only [zcs, hg] at e
     split at e
     · split at e
       · cases e
         funext i j
         simp [L2, std]
       · cases e
     · cases e
   · rfl
 · rfl
theorem zt0 (hT : zbw P T) {x y : Operand} {ts : Array TypeId} {t t' : Nat} (hts : ts.toList = [t, t']) (e : o.op = .call { callee := .builtin .append, args := #[x, y], argTypes := ts }) {vals : List AV}
   (hv : Ops w.heap D μ a [x, y] vals) {ob : Nat -> Option Ob} (hob : ∀ id z, ob id = some z -> g id = some z) {ice : Nat -> Bool} (hice : ∀ id, ice id = false -> c id = false) :
   zcg P base M W nt f g c o a w (zum T std o.dst t t' ob ice (zds g o.op o.dst) vals) := by
 obtain rfl : ts = #[t, t'] := by apply Array.ext'; simpa using hts
 match vals, hv with
 | [s, v], ⟨hs, hv, _⟩ =>
   unfold zum
   simp only
   split
   · rename_i d hc
     obtain ⟨hn, hdst⟩ := zcl hc
     have hnew : g d = none := by
       simp only [zds, e, zd0, hdst] at hn
       cases hg : g d with
       | none => rfl
       | some _ => rw [hg] at hn; cases hn
     split
     · rename_i sz ag ze e' esz eb eqf p1 p2 p3 hi
       obtain ⟨ok1, ok2⟩ := (hT t _ hi).k
       obtain ⟨ei', hei', hes⟩ := Option.map_eq_some_iff.1 ok2
       simp only [Prod.mk.injEq] at hes
       obtain ⟨hes1, hes2⟩ := hes
       subst hes1; subst hes2
       split
       · rename_i m src hsrc
         have c1 : zde T t' = true := by cases hx : zde T t' <;> simp_all
         have c2 : zbm 1 ei'.size = true := by cases hx : zbm 1 ei'.size <;> simp_all
         have c3 : (T.find e').isSome = true := by cases hx : (T.find e').isSome <;> simp_all
         rw [c1, c2, c3] at hsrc
         simp only [cond_true] at hsrc
         have hsrc0 := ykm hsrc
         have hni := zj0 hT c1
         have hsp := zb3 c2
         obtain ⟨eti, heti⟩ := Option.isSome_iff_exists.1 c3
         obtain ⟨ii, z, i1, i2, i3, i4, i5, i6⟩ := (hT e' eti heti).info
         rw [hei'] at i1
         cases i1
         have hzs : z.cells.size = ei'.size := by rw [i5, <- i2]
         obtain ⟨news, n1, n2, n3, n4⟩ := zfu (P := P) h hob hsrc hv
         have run : ∀ u w', (Builtin.append_ #[t, t'] o.type #[a.eval x, a.eval y]).run P w = .ok u w' -> (execOp a.eval o).run P w = .ok (.value u) w' := by
           intro u w' hu
           unfold execOp
           rw [e]
           simp [resolve, invoke, builtin, hu]
         have fresh : ∀ (ad : Option Addr), a.eval x = .slice ad 0 0 -> (0 + m) * ei'.bytes <= 140737488355328 -> 0 + m <= 9223372036854775807 ->
             ∀ get' : Nat -> Nat -> AV, (∀ i j v, i < m -> j < ei'.size -> R w.heap D zam (src i j) v -> R w.heap D zam (get' i j) v) ->
             ∀ K Q, (∀ a' w', zij base M W nt (znm f o.dst (.sl d ei'.size 0 m)) (zbe g [(d, .row e' ei'.size m get')]) c a' w' -> K a' w') -> o.wp P a w K Q := by
           intro ad hx hb1 hb2 get' hget K Q hK
           unfold Oper.wp
           have hfc : ∀ w', (Builtin.firstCells ei'.size 0 (.slice ad 0 0)).run P w' = .ok #[] w' := by
             intro w'
             cases ad <;> simp [Builtin.firstCells, loadCells, loadCellsFrom]
           rw [hx] at run
           by_cases hm0 : m = 0
           · subst hm0
             have hnil : news = [] := by apply List.eq_nil_of_length_eq_zero; rw [n1]; simp
             subst hnil
             have hr := zd7 (P := P) w t t' o.type e' ei' ok1 hni hei' ad 0 0 (a.eval y) 0 [] n2 n3 (by omega) (w' := w) (fun ad _ => rfl) (fun _ => rfl)
             rw [run _ _ hr]
             exact hK _ _ ⟨_, _, (h.newNil (yc1 (hd _ hdst) h.ntb) hnew e' ei'.size get' (zmy (hd _ hdst) h.ntb)).put hd (.slv _ _ _ (by simp))⟩
           · have hg0 : 0 < 0 + m := by omega
             have hr := zc5 (P := P) w t t' o.type e' ei' z ok1 hni hei' i3 ad 0 0 (a.eval y) m [] news (fun w' _ => hfc w') n2 n3 hg0 hb2 (growslice_fits hg0 hb1)
             rw [run _ _ hr]
             have hw : Sim base M W nt f g c a w.drew D μ := h.drew
             obtain ⟨C, hC⟩ : ∃ C, C = ([] : List Value).toArray ++ news.toArray ++ Builtin.zeroCells z.cells (grownCap w (0 + m) 0 e' - (0 + m)) := ⟨_, rfl⟩
             have hge := grownCap_ge w (0 + m) 0 e'
             have hCs : C.size = grownCap w (0 + m) 0 e' * ei'.size := by
               rw [hC]
               simp only [Array.size_append, size_zeroCells, List.size_toArray, List.length_nil, n1, hzs]
               rw [Nat.zero_add, <- Nat.add_mul]
               congr 1
               omega
             rw [<- hC]
             have hle : m * ei'.size <= C.size := by rw [hCs]; exact Nat.mul_le_mul_right _ (by omega)
             have hnew' := hw.new (hd _ hdst) hnew (.row e' ei'.size m get') C e' m (by simp) (zi0 hw hle (zgw hC (fun v hv => by simp at hv) (zdk hsp n1 (fun i j hi hj => by obtain ⟨v, v1, v2, _⟩ := n4 i j hi hj; exact ⟨v, v1, v2⟩)) (zdk hsp (by simp [size_zeroCells, hzs]) (fun i j hi hj => ⟨_, zfr hzs hi hj, i4 _ _ (getD_some (by omega))⟩))) (fun i j hi hj => by
               obtain ⟨v, v1, v2, v3⟩ := n4 i j hi hj
               have hlt := (List.getElem?_eq_some_iff.1 v1).1
               refine ⟨v, ?_, v2, hget i j v hi hj v3⟩
               rw [hC]
               simp [Array.getElem?_append, hlt]
               exact (List.getElem?_eq_some_iff.1 v1).2))
             refine hK _ _ ⟨_, _, hnew'.put hd ?_⟩
             have := R.sl (h := (w.drew.alloc (.cells C e')).heap) (D := D) (μ := fun id => if id = d then some (some (w.drew.heap.size, C.size, m)) else μ id) d ei'.size 0 m w.heap.size C.size m (grownCap w (0 + m) 0 e') (by simp) (by omega) (by rw [hCs]; simp) (by omega)
             simpa using this
         split
         ·
           intro hb
           have hb' : (0 + m) * ei'.bytes <= 140737488355328 /\ 0 + m <= 9223372036854775807 := by simpa [L3, std, zco] using hb
           generalize hu : a.eval x = u at hs
           cases hs with
           | nils =>
             intro K Q hK
             refine fresh none hu hb'.1 hb'.2 src (fun i j v _ _ r => r) K Q (fun a' w' hsim => hK a' w' ?_)
             rw [zf2]
             exact hsim
         ·
           intro hb
           have hb' : (0 + m) * ei'.bytes <= 140737488355328 /\ 0 + m <= 9223372036854775807 := by simpa [L3, std, zco] using hb
           generalize hu : a.eval x = u at hs
           cases hs with
           | emz ad =>
             intro K Q hK
             refine fresh (some ad) hu hb'.1 hb'.2 src (fun i j v _ _ r => r) K Q (fun a' w' hsim => hK a' w' ?_)
             rw [zf2]
             exact hsim
         · rename_i id sz' off n
           split
           · rename_i ty sz'' n' get hsz hic hg
             have hic := hice _ hic
             have hg := hob _ _ hg
             obtain rfl := za1 hsz
             split
             · trivial
             · rename_i hsz'
               obtain rfl := za1 hsz'
               split
               · trivial
               rename_i hty
               obtain rfl : e' = ty := (za1 hty).symm
               intro hb
               have hb' : (n + m) * ei'.bytes <= 140737488355328 /\ n + m <= 9223372036854775807 := by simpa [L3, std, zco] using hb
               obtain ⟨hb1, hb2⟩ := hb'
               have hdid : d ≠ id := by rintro rfl; rw [hnew] at hg; cases hg
               obtain ⟨jg, hjg⟩ : ∃ jg, jg = fun i j => zer std (L2 std zbg i n) (get i j) (src (L2 std Nat.sub i n) j) := ⟨_, rfl⟩
               have finish : ∀ a' w', zij base M W nt (znm f o.dst (.sl d ei'.size 0 (n + m))) (zbe g [(d, .row e' ei'.size (n + m) jg)]) c a' w' -> zij base M W nt (znm f o.dst (.sl d ei'.size 0 (n + m))) (zbe g [(d, .row e' ei'.size (n + m) jg), (id, .gone)]) (zjd c []) a' w' := by
                 rintro a' w' ⟨D', μ', hsim⟩
                 have hid : zbe g [(d, .row e' ei'.size (n + m) jg)] id = some (.row e' ei'.size n' get) := by
                   simp [zbe, za2, zak hdid, hg]
                 have := hsim.gone hid
                 refine ⟨D', μ', ?_⟩
                 rw [zf2]
                 have e2 : zbe (zbe g [(d, .row e' ei'.size (n + m) jg)]) [(id, .gone)] = zbe g [(d, .row e' ei'.size (n + m) jg), (id, .gone)] := by
                   funext k
                   simp only [zbe, za2]
                   by_cases k1 : d = k
                   · subst k1
                     simp [za3, zak (fun x => hdid x.symm : ¬ id = d)]
                   · by_cases k2 : id = k
                     · subst k2; simp [za3, zak hdid]
                     · simp [zak k1, zak k2]
                 rw [<- e2]
                 exact this
               have none0 : ∀ ad, n = 0 -> a.eval x = .slice ad 0 0 -> Adv P base M W nt f g c o a w (.sl d ei'.size 0 (L2 std Nat.add n m)) [(d, .row e' ei'.size (L2 std Nat.add n m) jg), (id, .gone)] [] := by
                 intro ad hn0 hu K Q hK
                 have e3 : L2 std Nat.add n m = m := by show n + m = m; omega
                 rw [e3] at hK
                 have e4 : n + m = m := by omega
                 rw [e4] at finish
                 refine fresh ad hu (by rw [Nat.zero_add]; rw [e4] at hb1; exact hb1) (by omega) jg (fun i j v hi hj r => ?_) K Q (fun a' w' hsim => hK a' w' (finish a' w' hsim))
                 rw [hjg]
                 have e5 : L2 std zbg i n = false := by
                   show zbg i n = false
                   cases e6 : zbg i n with
                   | false => rfl
                   | true => have := zas e6; omega
                 have e6 : L2 std Nat.sub i n = i := by show i - n = i; omega
                 simp only [e5, e6]
                 exact zbj r _
               have main : Adv P base M W nt f g c o a w (.sl d ei'.size 0 (L2 std Nat.add n m)) [(d, .row e' ei'.size (L2 std Nat.add n m) jg), (id, .gone)] [] := by
                 generalize hu : a.eval x = u at hs
                 cases hs with
                 | slv _ _ ad hμ => exact none0 ad rfl hu
                 | sl0 _ _ _ b z m' o' hμ ho => exact none0 _ rfl hu
                 | sl _ _ _ _ b z1 m' cap hμ hnc hz ho =>
                   intro K Q hK
                   unfold Oper.wp
                   rw [hu] at run
                   rw [Nat.zero_mul] at run
                   rw [Nat.zero_add] at hz ho
                   obtain ⟨hm', C, tt, fr, hh, hcs, hf, hle, hrow⟩ := h.obs id _ _ hg hμ
                   subst hm'
                   obtain ⟨hblt, hbb⟩ := h.own id b _ hμ
                   have hnD := (h.kd id b _ _ hμ hg (by simp)).2 hic
                   by_cases hroom : n + m <= cap
                   ·
                     have hfit : n * ei'.size + news.length <= C.size := by
                       rw [n1, <- Nat.add_mul, hcs]
                       exact Nat.le_trans (Nat.mul_le_mul_right _ hroom) hz
                     have h1news : ∀ u ∈ news, one u := by
                       intro u hu'
                       obtain ⟨q, hq⟩ := List.getElem?_of_mem hu'
                       have hql : q < m * ei'.size := by rw [<- n1]; exact (List.getElem?_eq_some_iff.1 hq).1
                       obtain ⟨v, v1, v2, _⟩ := n4 (q / ei'.size) (q % ei'.size) (Nat.div_lt_of_lt_mul (by rw [Nat.mul_comm]; exact hql)) (Nat.mod_lt _ (by omega))
                       rw [show q / ei'.size * ei'.size + q % ei'.size = q by rw [Nat.mul_comm]; exact Nat.div_add_mod q _] at v1
                       rw [hq] at v1; cases v1; exact v2
                     have hst := zdi P b (n * ei'.size) tt fr news 0 C w hh (by rw [hcs]; exact hf.1) (by omega) h1news
                     rw [Nat.add_zero] at hst
                     have hr := zd7 (P := P) w t t' o.type e' ei' ok1 hni hei' (some ⟨b, 0, none⟩) n cap (a.eval y) m news n2 n3 hroom (w' := w.setRow b (zb1 C (n * ei'.size) news)) (fun ad had => by
                       cases had
                       rw [zba, Nat.zero_add]
                       exact hst) (fun hx => by cases hx)
                     rw [run _ _ hr]
                     have hfree := h.goneFree hμ hg (by simp)
                     have hgone := h.gone hg
                     have hd2 : zbe g [(id, .gone)] d = none := by simp [zbe, za2, zak (fun x => hdid x.symm : ¬ id = d), hnew]
                     have had := hgone.adopt (d := d) (yc1 (hd _ hdst) h.ntb) hd2 (zmy (hd _ hdst) h.ntb) (b := b) (z := z1) (m := n + m) hblt hbb hnD hfree (ob := .row e' ei'.size (n + m) jg) (by simp) (zb1 C (n * ei'.size) news) (fun hD => by
                       refine ⟨rfl, _, tt, fr, setRow_heap w b C _ tt fr hh, by rw [zap, hcs], ⟨hf.1, hf.2.1, zc0 hf.2.2.1 h1news, hf.2.2.2⟩, Nat.le_trans (Nat.mul_le_mul_right _ hroom) hz, ?_⟩
                       rw [hjg]
                       refine zpv (C := fun k => (zb1 C (n * ei'.size) news)[k]?) (fun i j hi hj => ?_) (fun i j hi hj => ?_)
                       · obtain ⟨v, v1, v2, v3⟩ := hrow i j (by omega) hj
                         have hlt := (Array.getElem?_eq_some_iff.1 v1).1
                         refine ⟨v, ?_, v2, v3.mono hD (fun _ h => h) (fun _ _ h => h)⟩
                         rw [zaj _ _ _ _ hlt, if_neg]
                         · exact v1
                         · have h3 : (i + 1) * ei'.size <= n * ei'.size := Nat.mul_le_mul_right _ hi
                           rw [Nat.add_mul] at h3
                           omega
                       · obtain ⟨v, v1, v2, v3⟩ := n4 i j hi hj
                         have hlt := (List.getElem?_eq_some_iff.1 v1).1
                         refine ⟨v, ?_, v2, v3.mono hD (fun _ h => h) (fun _ _ h => h)⟩
                         rw [zaj _ _ _ _ (by omega), if_pos ⟨by omega, by omega⟩, Nat.add_sub_cancel_left]
                         exact v1)
                     have hput := had.put hd (u := .slice (some ⟨b, 0, none⟩) (n + m) cap) (v := .sl d ei'.size 0 (n + m)) (by
                       have := R.sl (h := (w.setRow b (zb1 C (n * ei'.size) news)).heap) (D := D) (μ := fun i => if i = d then some (some (b, z1, n + m)) else μ i) d ei'.size 0 (n + m) b z1 (n + m) cap (by simp) hroom (by simpa using hz) (by omega)
                       simpa using this)
                     have e2 : zbe (zbe g [(id, .gone)]) [(d, .row e' ei'.size (n + m) jg)] = zbe g [(d, .row e' ei'.size (n + m) jg), (id, .gone)] := by
                       funext k
                       simp only [zbe, za2]
                       by_cases k1 : d = k
                       · subst k1; simp [za3]
                       · by_cases k2 : id = k
                         · subst k2; simp [za3, zak hdid]
                         · simp [zak k1, zak k2]
                     rw [e2] at hput
                     exact hK _ _ ⟨D, (fun i => if i = d then some (some (b, z1, n + m)) else μ i), by rw [zf2]; exact hput⟩
                   ·
                     have hg0 : cap < n + m := by omega
                     obtain ⟨olds, o1, o2, o3⟩ := zje (P := P) (w := w) ei'.size n b 0 cap (fun i j => C.getD (i * ei'.size + j) undef) (fun i j hi hj => by
                       obtain ⟨v, v1, _⟩ := hrow i j (by omega) hj
                       rw [zb9 hh, Nat.zero_add]; exact getD_some (Array.getElem?_eq_some_iff.1 v1).1)
                     have hr := zc5 (P := P) w t t' o.type e' ei' z ok1 hni hei' i3 (some ⟨b, 0, none⟩) n cap (a.eval y) m olds news o2 n2 n3 hg0 hb2 (growslice_fits hg0 hb1)
                     rw [run _ _ hr]
                     have hw : Sim base M W nt f g c a w.drew D μ := h.drew
                     obtain ⟨C2, hC2⟩ : ∃ C2, C2 = olds.toArray ++ news.toArray ++ Builtin.zeroCells z.cells (grownCap w (n + m) cap e' - (n + m)) := ⟨_, rfl⟩
                     have hge := grownCap_ge w (n + m) cap e'
                     have hCs : C2.size = grownCap w (n + m) cap e' * ei'.size := by
                       rw [hC2]
                       simp only [Array.size_append, size_zeroCells, List.size_toArray, n1, o1, hzs]
                       rw [<- Nat.add_mul, <- Nat.add_mul]
                       congr 1
                       omega
                     rw [<- hC2]
                     have hle2 : (n + m) * ei'.size <= C2.size := by rw [hCs]; exact Nat.mul_le_mul_right _ hge
                     have hnew' := hw.new (hd _ hdst) hnew (.row e' ei'.size (n + m) jg) C2 e' (n + m) (by simp) (zi0 hw hle2 (zgw hC2 (zdk hsp o1 (fun i j hi hj => by
                         obtain ⟨v, v1, v2, _⟩ := hrow i j (by omega) hj
                         have hv1 := getD_some (Array.getElem?_eq_some_iff.1 v1).1
                         rw [hv1] at v1; cases v1
                         exact ⟨_, o3 i j hi hj, v2⟩)) (zdk hsp n1 (fun i j hi hj => by obtain ⟨v, v1, v2, _⟩ := n4 i j hi hj; exact ⟨v, v1, v2⟩)) (zdk hsp (by simp [size_zeroCells, hzs]) (fun i j hi hj => ⟨_, zfr hzs hi hj, i4 _ _ (getD_some (by omega))⟩))) (by
                       rw [hjg]
                       refine zpv (C := fun k => C2[k]?) (fun i j hi hj => ?_) (fun i j hi hj => ?_)
                       · obtain ⟨v, v1, v2, v3⟩ := hrow i j (by omega) hj
                         have hv1 := getD_some (Array.getElem?_eq_some_iff.1 v1).1
                         rw [hv1] at v1; cases v1
                         have h4 := o3 i j hi hj
                         have hlt := (List.getElem?_eq_some_iff.1 h4).1
                         refine ⟨_, ?_, v2, v3⟩
                         rw [hC2, Array.append_assoc]
                         rw [Array.getElem?_append_left (by simpa using hlt)]
                         simpa using h4
                       · obtain ⟨v, v1, v2, v3⟩ := n4 i j hi hj
                         have hlt := (List.getElem?_eq_some_iff.1 v1).1
                         refine ⟨v, ?_, v2, v3⟩
                         rw [hC2, Array.append_assoc]
                         rw [Array.getElem?_append_right (by simp [o1]), Array.getElem?_append_left (by simp [o1]; omega)]
                         simp [o1, v1]))
                     refine hK _ _ (finish _ _ ⟨_, _, hnew'.put hd ?_⟩)
                     have := R.sl (h := (w.drew.alloc (.cells C2 e')).heap) (D := D) (μ := fun id => if id = d then some (some (w.drew.heap.size, C2.size, n + m)) else μ id) d ei'.size 0 (n + m) w.heap.size C2.size (n + m) (grownCap w (n + m) cap e') (by simp) hge (by rw [hCs]; simp) (by omega)
                     simpa using this
               rw [hjg] at main
               exact main
           · rename_i ty cs hsz hic hg
             have hic := hice _ hic
             have hg := hob _ _ hg
             obtain rfl := za1 hsz
             split
             rotate_left
             · trivial
             rename_i k1 k2 k3
             have k1 := zb3 k1
             have k3 := zas k3
             rw [zai] at k1
             obtain rfl : e' = ty := (za1 k2).symm
             intro hb
             have hb' : (n + m) * ei'.bytes <= 140737488355328 /\ n + m <= 9223372036854775807 := by simpa [L3, std, zco] using hb
             obtain ⟨hb1, hb2⟩ := hb'
             rw [hsrc0]
             have hdid : d ≠ id := by rintro rfl; rw [hnew] at hg; cases hg
             obtain ⟨ncs, hncs⟩ : ∃ ncs, ncs = zbs (zcx cs (n * ei'.size)) (zn8 (zzn src ei'.size) 0 (m * ei'.size)) := ⟨_, rfl⟩
             have hnl : ncs.length = (n + m) * ei'.size := by
               rw [hncs, zae, zaz, List.length_append, List.length_take, zhj, Nat.add_mul]
               omega
             have hleft : ∀ q, q < n * ei'.size -> ncs[q]? = cs[q]? := by
               intro q hq
               rw [hncs, zae, zaz, List.getElem?_append_left (by rw [List.length_take]; omega), List.getElem?_take, if_pos hq]
             have hright : ∀ q x, n * ei'.size <= q -> ncs[q]? = some x -> q - n * ei'.size < m * ei'.size /\ x = src ((q - n * ei'.size) / ei'.size) ((q - n * ei'.size) % ei'.size) := by
               intro q x hq hx
               have hlt := (List.getElem?_eq_some_iff.1 hx).1
               rw [hnl, Nat.add_mul] at hlt
               rw [hncs, zae, zaz, List.getElem?_append_right (by rw [List.length_take]; omega), List.length_take, Nat.min_eq_left k1, zez, if_pos (by omega), yhj _ _ _ (by omega), Nat.zero_add] at hx
               cases hx
               exact ⟨by omega, rfl⟩
             have hnews : ∀ q, q < m * ei'.size -> ∃ v, news[q]? = some v /\ one v /\ R w.heap D zam (src (q / ei'.size) (q % ei'.size)) v := by
               intro q hq
               obtain ⟨v, v1, v2, v3⟩ := n4 (q / ei'.size) (q % ei'.size) (Nat.div_lt_of_lt_mul (by rw [Nat.mul_comm]; exact hq)) (Nat.mod_lt _ (by omega))
               rw [show q / ei'.size * ei'.size + q % ei'.size = q by rw [Nat.mul_comm]; exact Nat.div_add_mod q _] at v1
               exact ⟨v, v1, v2, v3⟩
             have finish : ∀ a' w', zij base M W nt (znm f o.dst (.sl d ei'.size 0 (n + m))) (zbe g [(d, .spr e' ncs)]) c a' w' -> zij base M W nt (znm f o.dst (.sl d ei'.size 0 (n + m))) (zbe g [(d, .spr e' ncs), (id, .gone)]) (zjd c []) a' w' := by
               rintro a' w' ⟨D', μ', hsim⟩
               have hid : zbe g [(d, .spr e' ncs)] id = some (.spr e' cs) := by
                 simp [zbe, za2, zak hdid, hg]
               have := hsim.gone hid
               refine ⟨D', μ', ?_⟩
               rw [zf2]
               have e2 : zbe (zbe g [(d, .spr e' ncs)]) [(id, .gone)] = zbe g [(d, .spr e' ncs), (id, .gone)] := by
                 funext k
                 simp only [zbe, za2]
                 by_cases k1 : d = k
                 · subst k1
                   simp [za3, zak (fun x => hdid x.symm : ¬ id = d)]
                 · by_cases k2 : id = k
                   · subst k2; simp [za3, zak hdid]
                   · simp [zak k1, zak k2]
               rw [<- e2]
               exact this
             have main : Adv P base M W nt f g c o a w (.sl d ei'.size 0 (n + m)) [(d, .spr e' ncs), (id, .gone)] [] := by
               generalize hu : a.eval x = u at hs
               cases hs with
               | slv _ _ ad hμ => exact absurd k3 (Nat.lt_irrefl _)
               | sl0 _ _ _ b z m' o' hμ ho => exact absurd k3 (Nat.lt_irrefl _)
               | sl _ _ _ _ b z1 m' cap hμ hnc hz ho =>
                 intro K Q hK
                 unfold Oper.wp
                 rw [hu] at run
                 rw [Nat.zero_mul] at run
                 rw [Nat.zero_add] at hz ho
                 obtain ⟨C, tt, fr, hh, hcs, hf, hlz, hrow⟩ := h.obs id _ _ hg hμ
                 obtain ⟨hblt, hbb⟩ := h.own id b _ hμ
                 have hnD := (h.kd id b _ _ hμ hg (by simp)).2 hic
                 by_cases hroom : n + m <= cap
                 ·
                   have hfit : n * ei'.size + news.length <= C.size := by
                     rw [n1, <- Nat.add_mul, hcs]
                     exact Nat.le_trans (Nat.mul_le_mul_right _ hroom) hz
                   have h1news : ∀ u ∈ news, one u := by
                     intro u hu'
                     obtain ⟨q, hq⟩ := List.getElem?_of_mem hu'
                     have hql : q < m * ei'.size := by rw [<- n1]; exact (List.getElem?_eq_some_iff.1 hq).1
                     obtain ⟨v, v1, v2, _⟩ := hnews q hql
                     rw [hq] at v1; cases v1; exact v2
                   have hst := zdi P b (n * ei'.size) tt fr news 0 C w hh (by rw [hcs]; exact hf.1) (by omega) h1news
                   rw [Nat.add_zero] at hst
                   have hr := zd7 (P := P) w t t' o.type e' ei' ok1 hni hei' (some ⟨b, 0, none⟩) n cap (a.eval y) m news n2 n3 hroom (w' := w.setRow b (zb1 C (n * ei'.size) news)) (fun ad had => by
                     cases had
                     rw [zba, Nat.zero_add]
                     exact hst) (fun hx => by cases hx)
                   rw [run _ _ hr]
                   have hfree := h.goneFree hμ hg (by simp)
                   have hgone := h.gone hg
                   have hd2 : zbe g [(id, .gone)] d = none := by simp [zbe, za2, zak (fun x => hdid x.symm : ¬ id = d), hnew]
                   have had := hgone.adopt (d := d) (yc1 (hd _ hdst) h.ntb) hd2 (zmy (hd _ hdst) h.ntb) (b := b) (z := z1) (m := n + m) hblt hbb hnD hfree (ob := .spr e' ncs) (by simp) (zb1 C (n * ei'.size) news) (fun hD => by
                     refine ⟨_, tt, fr, setRow_heap w b C _ tt fr hh, by rw [zap, hcs], hf, by rw [hnl]; exact Nat.le_trans (Nat.mul_le_mul_right _ hroom) hz, fun q x hx => ?_⟩
                     by_cases hq : q < n * ei'.size
                     · rw [hleft q hq] at hx
                       obtain ⟨v, v1, v2, v3⟩ := hrow q x hx
                       have hlt := (Array.getElem?_eq_some_iff.1 v1).1
                       refine ⟨v, ?_, v2, v3.mono hD (fun _ h => h) (fun _ _ h => h)⟩
                       rw [zaj _ _ _ _ hlt, if_neg (by omega)]
                       exact v1
                     · obtain ⟨q1, rfl⟩ := hright q x (by omega) hx
                       obtain ⟨v, v1, v2, v3⟩ := hnews _ q1
                       refine ⟨v, ?_, v2, v3.mono hD (fun _ h => h) (fun _ _ h => by cases h)⟩
                       rw [zaj _ _ _ _ (by rw [n1] at hfit; omega), if_pos ⟨by omega, by rw [n1]; omega⟩]
                       exact v1)
                   have hput := had.put hd (u := .slice (some ⟨b, 0, none⟩) (n + m) cap) (v := .sl d ei'.size 0 (n + m)) (by
                     have := R.sl (h := (w.setRow b (zb1 C (n * ei'.size) news)).heap) (D := D) (μ := fun i => if i = d then some (some (b, z1, n + m)) else μ i) d ei'.size 0 (n + m) b z1 (n + m) cap (by simp) hroom (by simpa using hz) (by omega)
                     simpa using this)
                   have e2 : zbe (zbe g [(id, .gone)]) [(d, .spr e' ncs)] = zbe g [(d, .spr e' ncs), (id, .gone)] := by
                     funext k
                     simp only [zbe, za2]
                     by_cases k1 : d = k
                     · subst k1; simp [za3]
                     · by_cases k2 : id = k
                       · subst k2; simp [za3, zak hdid]
                       · simp [zak k1, zak k2]
                   rw [e2] at hput
                   exact hK _ _ ⟨D, (fun i => if i = d then some (some (b, z1, n + m)) else μ i), by rw [zf2]; exact hput⟩
                 ·
                   have hg0 : cap < n + m := by omega
                   have hone : ∀ i j, i < n -> j < ei'.size -> i * ei'.size + j < n * ei'.size := by
                     intro i j hi hj
                     have h3 : (i + 1) * ei'.size <= n * ei'.size := Nat.mul_le_mul_right _ hi
                     rw [Nat.add_mul] at h3
                     omega
                   obtain ⟨olds, o1, o2, o3⟩ := zje (P := P) (w := w) ei'.size n b 0 cap (fun i j => C.getD (i * ei'.size + j) undef) (fun i j hi hj => by
                     have hq := hone i j hi hj
                     obtain ⟨v, v1, _⟩ := hrow (i * ei'.size + j) _ (List.getElem?_eq_getElem (show i * ei'.size + j < cs.length by omega))
                     rw [zb9 hh, Nat.zero_add]; exact getD_some (Array.getElem?_eq_some_iff.1 v1).1)
                   have hr := zc5 (P := P) w t t' o.type e' ei' z ok1 hni hei' i3 (some ⟨b, 0, none⟩) n cap (a.eval y) m olds news o2 n2 n3 hg0 hb2 (growslice_fits hg0 hb1)
                   rw [run _ _ hr]
                   have hw : Sim base M W nt f g c a w.drew D μ := h.drew
                   obtain ⟨C2, hC2⟩ : ∃ C2, C2 = olds.toArray ++ news.toArray ++ Builtin.zeroCells z.cells (grownCap w (n + m) cap e' - (n + m)) := ⟨_, rfl⟩
                   have hge := grownCap_ge w (n + m) cap e'
                   have hCs : C2.size = grownCap w (n + m) cap e' * ei'.size := by
                     rw [hC2]
                     simp only [Array.size_append, size_zeroCells, List.size_toArray, n1, o1, hzs]
                     rw [<- Nat.add_mul, <- Nat.add_mul]
                     congr 1
                     omega
                   rw [<- hC2]
                   have hle2 : (n + m) * ei'.size <= C2.size := by rw [hCs]; exact Nat.mul_le_mul_right _ hge
                   have hDal : ∀ k, D k -> (w.drew.alloc (.cells C2 e')).heap[k]? = w.heap[k]? := fun k hk => Below.heap_alloc _ _ _ (h.dlt k hk)
                   have hnew' := hw.new (hd _ hdst) hnew (.spr e' ncs) C2 e' (n + m) (by simp) (by
                     refine ⟨C2, e', _, heap_alloc_new _ _, rfl, ⟨zj1 _, rfl⟩, by rw [hnl]; exact hle2, fun q x hx => ?_⟩
                     by_cases hq : q < n * ei'.size
                     · rw [hleft q hq] at hx
                       obtain ⟨v, v1, v2, v3⟩ := hrow q x hx
                       have hv1 := getD_some (Array.getElem?_eq_some_iff.1 v1).1
                       rw [hv1] at v1; cases v1
                       have h4 := o3 (q / ei'.size) (q % ei'.size) (Nat.div_lt_of_lt_mul (by rw [Nat.mul_comm]; exact hq)) (Nat.mod_lt _ (by omega))
                       rw [show q / ei'.size * ei'.size + q % ei'.size = q by rw [Nat.mul_comm]; exact Nat.div_add_mod q _] at h4
                       have hlt := (List.getElem?_eq_some_iff.1 h4).1
                       refine ⟨_, ?_, v2, v3.mono hDal (fun _ h => h) (fun _ _ h => h)⟩
                       rw [hC2, Array.append_assoc]
                       rw [Array.getElem?_append_left (by simpa using hlt)]
                       simpa using h4
                     · obtain ⟨q1, rfl⟩ := hright q x (by omega) hx
                       obtain ⟨v, v1, v2, v3⟩ := hnews _ q1
                       have hlt := (List.getElem?_eq_some_iff.1 v1).1
                       refine ⟨v, ?_, v2, v3.mono hDal (fun _ h => h) (fun _ _ h => by cases h)⟩
                       rw [hC2, Array.append_assoc]
                       rw [Array.getElem?_append_right (by simp [o1]; omega), Array.getElem?_append_left (by simp [o1]; omega)]
                       simp [o1, v1])
                   refine hK _ _ (finish _ _ ⟨_, _, hnew'.put hd ?_⟩)
                   have := R.sl (h := (w.drew.alloc (.cells C2 e')).heap) (D := D) (μ := fun id => if id = d then some (some (w.drew.heap.size, C2.size, n + m)) else μ id) d ei'.size 0 (n + m) w.heap.size C2.size (n + m) (grownCap w (n + m) cap e') (by simp) hge (by rw [hCs]; simp) (by omega)
                   simpa using this
             rw [hncs] at main
             exact main
           · trivial
         · trivial
       · trivial
     · trivial
   · trivial
end
end Sy
end Go.Proofs.YtfonekpmkdkgnaaGreatDoor
namespace Go.Proofs.YtfonekpmkdkgnaaGreatDoor
namespace Sy
open Go Go.RowKit
set_option linter.unusedSimpArgs false
set_option linter.unusedVariables false
set_option linter.unusedSectionVars false
section
variable {P : Program} {T : TT} {base : Nat} {M : Two} {W : World} {nt : Nat} {f : Nat -> Option AV} {g : Nat -> Option Ob} {c : Nat -> Bool} {a : Act} {w : World} {D : Nat -> Prop} {μ : Mu} {o : Oper}
theorem Sim.trash (h : Sim base M W nt f g c a w D μ) {id b : Nat} {z : Nat × Nat} {ob : Ob} (hμ : μ id = some (some (b, z))) (hg : g id = some ob) (hne : ob ≠ .gone) (hc : c id = false) {w' : World}
   (hos : w'.os = w.os) (htape : w'.tape = w.tape) (hout : w'.output = w.output) (hsz : w'.heap.size = w.heap.size) (hb : ∀ k, k ≠ b -> w'.heap[k]? = w.heap[k]?) : Sim base M W nt f (zbe g [(id, .gone)]) c a w' D μ := by
 have hnD : ¬ D b := (h.kd id b z ob hμ hg hne).2 hc
 have hbase := (h.own id b z hμ).2
 have hD : ∀ k, D k -> w'.heap[k]? = w.heap[k]? := fun k hk => hb k (by rintro rfl; exact hnD hk)
 have hnt : zar ob = false := by
   cases e : zar ob with
   | false => rfl
   | true => exact (yqj e (h.obs id ob _ hg hμ)).elim
 have hgp := zkq (g := g) (o := .gone) (h.tbs id _ hg).1 rfl (fun x hx => by rw [hg] at hx; cases hx; exact hnt)
 have h' := h.gone hg hnt
 exact {
   os := hos.trans h.os, tape := htape.trans h.tape, output := hout.trans h.output
   size := by rw [hsz]; exact h.size
   bs := by rw [hsz]; exact h.bs
   old := fun k h1 h2 => by
     rw [hb k (by
       rintro rfl
       rcases hbase with h3 | h3
       · omega
       · exact h2 h3)]
     exact h.old k h1 h2
   defers := h.defers, tmps := h.tmps
   slots := fun s v hv => (h.slots s v hv).mono hD (fun _ h => h) (fun _ _ h => h)
   dlt := fun k hk => by rw [hsz]; exact h.dlt k hk
   low := h.low
   domx := h'.domx
   obsx := fun i o' x h1 h2 => by
     by_cases e : i = id
     · rw [hgp, if_pos e] at h1; cases h1
       cases x <;> exact trivial
     · have h1' := h1
       rw [hgp, if_neg e] at h1
       refine (h.obsx i o' x h1 h2).mono hD (fun _ h => h) (fun _ _ h => h) (fun b' z' hx hne2 => hb b' ?_)
       rintro rfl
       subst hx
       exact e (h.injx i id b' z' z o' ob h2 hμ h1 (h.tbs.up hg) hne2 hne)
   injx := h'.injx
   own := fun i b1 z1 h1 => by rw [hsz]; exact h.own i b1 z1 h1
   kdx := h'.kdx
   icyx := h'.icyx
   ntb := h.ntb
   tbs := h'.tbs
   icm := h'.icm
   mems := h'.mems
   pin := h.pin
   gl := h.gl }
theorem zu2 (w : World) (p : Addr) (n : Nat) : (w.freeze p n).heap.size = w.heap.size := by
 unfold World.freeze; split <;> simp
theorem zrs (w : World) (p : Addr) (n : Nat) {k : Nat} (hk : k ≠ p.block) : (w.freeze p n).heap[k]? = w.heap[k]? := by
 unfold World.freeze
 split
 · rfl
 · simp only [Array.getElem?_modify]
   rw [if_neg (fun e => hk e.symm)]
theorem zu3 (w : World) (p : Addr) (n : Nat) : (w.freeze p n).os = w.os /\ (w.freeze p n).tape = w.tape /\ (w.freeze p n).output = w.output := by
 unfold World.freeze; split <;> exact ⟨rfl, rfl, rfl⟩
variable (h : Sim base M W nt f g c a w D μ) (hd : ∀ d, o.dst = some d -> d < nt)
include h hd
theorem zx3 {x : Operand} {ts : Array TypeId} (e : o.op = .call { callee := .builtin .unsafeSliceData, args := #[x], argTypes := ts }) {vals : List AV} (hv : Ops w.heap D μ a [x] vals) : zcg P base M W nt f g c o a w (zsb std vals) := by
 unfold zsb
 split
 · rename_i id n
   obtain ⟨hx, _⟩ := hv
   intro hb
   have hn : 0 < n := zas hb
   have run : ∀ u, (Builtin.unsafeSliceData_ ts o.type #[a.eval x]).run P w = .ok u w -> (execOp a.eval o).run P w = .ok (.value u) w := by
     intro u hu
     unfold execOp
     rw [e]
     simp [resolve, invoke, builtin, hu]
   generalize a.eval x = u at hx run
   cases hx with
   | slv => omega
   | sl0 => omega
   | sl _ _ _ _ b z m cap hm hnc hz ho =>
     have := R.eref (h := w.heap) (D := D) (μ := μ) id 1 0 0 b z m hm (by omega)
     rw [show 0 * 1 + 0 = 0 * 1 by omega] at this
     exact za0 h hd (run _ (Lib.run_unsafeSliceData_row w ts o.type _ n cap (by omega))) this
 · trivial
theorem yam (hT : zbw P T) {x y : Operand} {t t2 : Nat} {ts : Array TypeId} (hts : ts.toList = [t, t2]) (e : o.op = .call { callee := .builtin .unsafeString, args := #[x, y], argTypes := ts }) {vals : List AV} (hv : Ops w.heap D μ a [x, y] vals)
   {ob : Nat -> Option Ob} (hob : ∀ id z, ob id = some z -> g id = some z) {ice : Nat -> Bool} (hice : ∀ id, ice id = false -> c id = false) : zcg P base M W nt f g c o a w (zui T std t ob ice vals) := by
 obtain rfl : ts = #[t, t2] := by apply Array.ext'; simpa using hts
 unfold zui
 split
 · rename_i id n
   obtain ⟨hx, hy, _⟩ := hv
   split
   · rename_i ty m get pi hic hg hpi
     have hg := hob _ _ hg
     have hic := hice _ hic
     split
     · rename_i el hpt
       split
       · rename_i hty hu8
         obtain rfl := za1 hty
         rintro ⟨h0, hm, h63, hby⟩
         have hp := (hT t pi hpi).ptf _ hpt
         have hu := zic hT hu8
         obtain ⟨ei, hei⟩ : ∃ ei, T.find ty = some ei := by
           unfold ym0 at hu8
           split at hu8
           · rename_i i hi; exact ⟨i, hi⟩
           · cases hu8
         have hag : ei.isAgg = false := by rw [(hT ty ei hei).agg, hu]
         have hc : P.cellsOf ty = 1 := by
           obtain ⟨j, zv, hj, hj2, _⟩ := (hT ty ei hei).info
           rw [Program.cellsOf, hj]; simpa [(hT ty ei hei).single hag] using hj2
         have hyv := hy.inv_int
         have run : ∀ u w', (Builtin.unsafeString_ #[t, t2] o.type #[a.eval x, a.eval y]).run P w = .ok u w' -> (execOp a.eval o).run P w = .ok (.value u) w' := by
           intro u w' hu
           unfold execOp
           rw [e]
           simp [resolve, invoke, builtin, hu]
         rw [hyv] at run
         generalize a.eval x = u at hx run
         cases hx with
         | eref _ _ _ _ b z mm hμ hi =>
           obtain ⟨hmm, C, t', fr, hh, hcs, ⟨_, rfl, _⟩, hle, hrow⟩ := h.obs id _ _ hg hμ
           obtain ⟨l, hl⟩ : ∃ l, l = zca n.toNat (fun i => (get i 0).toI) := ⟨_, rfl⟩
           have hlen : l.length = n.toNat := by rw [hl]; simp [zca]
           have hcell : ∀ j q, l[j]? = some q -> w.cell? ((⟨b, 0, none⟩ : Addr).add j) = some (.int .u8 q.toNat) := by
             intro j q hq
             have hj : j < n.toNat := by rw [<- hlen]; exact (List.getElem?_eq_some_iff.1 hq).1
             obtain ⟨v, v1, _, v3⟩ := hrow j 0 (by omega) (by omega)
             obtain ⟨xx, x1, x2, x3⟩ := hby j hj
             rw [x1] at v3
             rw [v3.inv_int] at v1
             rw [zba, zmw, zb9 hh]
             rw [hl] at hq
             simp [zca, hj, x1, AV.toI] at hq
             subst hq
             have : (UInt8.ofNat xx.toNat).toNat = xx.toNat := by
               rw [UInt8.toNat_ofNat']; omega
             rw [this, Nat.zero_add]
             have e1 : ((xx.toNat : Nat) : Int) = xx := by omega
             rw [e1]
             simpa using v1
           have hrun := Lib.run_unsafeString_row (P := P) w t t2 o.type _ hp hc b C.size (by simp [World.shape?, hh]) l (by intro h; rw [h] at hlen; simp at hlen; omega) (by rw [hlen]; omega) (by rw [hlen]; omega) hcell
           have hn : ((l.length : Nat) : Int) = n := by rw [hlen]; omega
           rw [hn] at hrun
           have hdef : (Builtin.unsafeString_ #[t, t2] o.type #[.pointer (some ⟨b, 0 * 1 + 0, none⟩), .int .i64 n]).run P w = .ok (.string ⟨l.toArray⟩) (w.freeze ⟨b, 0, none⟩ l.length) := by
             exact hrun
           have fr := zu3 w ⟨b, 0, none⟩ l.length
           intro K Q hK
           unfold Oper.wp
           rw [run _ _ hdef]
           refine hK _ _ ⟨_, _, (h.trash hμ hg (by simp) hic fr.1 fr.2.1 fr.2.2 (zu2 _ _ _) (fun k hk => zrs _ _ _ hk)).put hd (.str _ _ ?_)⟩
           rw [hl]; rfl
       · trivial
     · trivial
   · trivial
 · trivial
end
end Sy
end Go.Proofs.YtfonekpmkdkgnaaGreatDoor
namespace Go.Proofs.YtfonekpmkdkgnaaGreatDoor
namespace Sy
open Go Go.RowKit
set_option linter.unusedSimpArgs false
set_option linter.unusedVariables false
theorem yaj {h : Array Obj} {D : Nat -> Prop} {μ : Mu} (sz : Nat) {x : AV} {v : Value} (r : R h D μ x v) (y : AV) : R h D μ (yiy std sz true x y) v := by
 unfold yiy
 split
 · exact zch r y
 · exact r
theorem zwz {h : Array Obj} {D : Nat -> Prop} {μ : Mu} (sz : Nat) {y : AV} {v : Value} (r : R h D μ y v) (x : AV) : R h D μ (yiy std sz false x y) v := by
 unfold yiy
 split
 · exact zbj r x
 · exact r
section
variable {P : Program} {T : TT} {base : Nat} {M : Two} {W : World} {nt : Nat} {f : Nat -> Option AV} {g : Nat -> Option Ob} {c : Nat -> Bool} {a : Act} {w : World} {D : Nat -> Prop} {μ : Mu} {o : Oper}
variable (h : Sim base M W nt f g c a w D μ) (hd : ∀ d, o.dst = some d -> d < nt)
include h hd
theorem zx9 (hT : zbw P T) {t : TypeId} {x y : Operand} (e : o.op = .index t x y) {vals : List AV} (hv : Ops w.heap D μ a [x, y] vals) : zcg P base M W nt f g c o a w (ye3 T std t vals) := by
 match vals, hv with
 | [v, v'], ⟨hx, hy, _⟩ =>
   unfold ye3
   split
   · rename_i l k i he
     simp only [List.cons.injEq, and_true] at he
     obtain ⟨rfl, rfl⟩ := he
     split
     · rename_i sz ag ze eqf p1 p2 p3 hi
       have ok : P.underlying t = some .string := (hT t _ hi).k
       intro hb
       obtain ⟨h0, h1⟩ := ze7 hb
       obtain ⟨s, e1, rfl⟩ := hx.inv_str
       have e2 := hy.inv_int
       have hlt : i.toNat < s.size := by simp [std, slen] at h1; have : (s.data.size : Int) = s.size := rfl; omega
       refine za0 h hd (u := .int .u8 (s[i.toNat]'hlt).toNat) ?_ ?_
       · unfold execOp
         rw [e]
         have : s[i.toNat]? = some (s[i.toNat]'hlt) := by simp [hlt]
         simp [e1, e2, Instr.index, asIntOf, run_underlying ok, h0, this]
       · have : L2 std zkv s.data.toList i = ((s[i.toNat]'hlt).toNat : Int) := by
           have hlt' : i.toNat < s.data.size := hlt
           have h5 : s.data.toList[i.toNat]? = some (s[i.toNat]'hlt) := by
             rw [Array.getElem?_toList, Array.getElem?_eq_getElem hlt']; rfl
           simp only [L2, std, zkv, List.getD, h5, Option.getD_some]
         rw [this]; exact .int _ _
     · trivial
   · rename_i cs k i he
     simp only [List.cons.injEq, and_true] at he
     obtain ⟨rfl, rfl⟩ := he
     split
     · rename_i sz ag ze n e' eqf p1 p2 p3 hi
       have ok := (hT t _ hi).k
       obtain ⟨ok1, ok2⟩ := ok
       obtain ⟨ei', hei', hes⟩ := Option.map_eq_some_iff.1 ok2
       split
       · rename_i ei hlen hei
         have hlen := za1 hlen
         rw [zai] at hlen
         split
         · rename_i hag hs1
           have hs1 := za1 hs1
           intro hb
           obtain ⟨h0, h1⟩ := ze7 hb
           have h1' : i < (n : Int) := h1
           obtain ⟨us, e1, o1, s1, hr⟩ := hx.inv_agg
           have e2 := hy.inv_int
           have hlt : i.toNat < n := by omega
           have hso : (sizeOf e').run P w = .ok 1 w := by simp [sizeOf, typeInfo, program, Sem.run, hei', hes]
           obtain ⟨u, hu, r⟩ := zfz (P := P) hT hei o1 ⟨s1, hr⟩ (i.toNat * 1) (by rw [hs1]; omega) (fun _ => hs1)
           rw [hag] at r
           have hg := zf9 (cs := cs) (sz := 1) (n := n) (by omega) (i := i.toNat) (j := 0) hlt (by omega)
           have hl : zbb .dead cs (i.toNat * 1) = zjy std cs 1 i.toNat 0 := by
             have h5 := zal .dead cs (i.toNat * 1) (by omega)
             rw [Nat.add_zero] at hg
             rw [h5] at hg
             exact Option.some.inj hg
           rw [hl] at r
           refine za0 h hd (u := u) ?_ r
           unfold execOp
           rw [e]
           rw [Nat.mul_one] at hu
           simp [e1, e2, Instr.index, asIntOf, run_underlying ok1, h0, h1', hso, hu]
         · trivial
       · trivial
     · trivial
   · trivial
theorem yff (hT : zbw P T) {t : TypeId} {x : Operand} (e : o.op = .sliceToArrayPointer t x) {vals : List AV} (hv : Ops w.heap D μ a [x] vals)
   {ob : Nat -> Option Ob} (hob : ∀ id z, ob id = some z -> g id = some z) : zcg P base M W nt f g c o a w (yv7 T std t ob vals) := by
 match vals, hv with
 | [v], ⟨hx, _⟩ =>
   simp only [yv7]
   · split
     · rename_i sz ag ze m e' eqf p1 p2 p3 hi
       obtain ⟨ok1, -⟩ := (hT t _ hi).k
       split
       · rename_i n get him
         split
         · rename_i hm
           rw [zbn] at hm
           intro hb
           have hb : m <= n := by
             have hb : zbm m n = true := hb
             rw [zdz] at hb
             exact hb
           obtain ⟨l1, l2⟩ := zmh h hob him hx (ids := zdu v) (fun _ h => h)
           have h' := h.freeze (zdu v) l2
           intro K Q hK
           unfold Oper.wp
           generalize hu : a.eval x = u at l1
           cases l1 with
           | lst0 => omega
           | lst _ _ _ b oo cap vs hD hc hv h1 hr =>
             have run : (execOp a.eval o).run P w = .ok (.value (.pointer (some ⟨b, oo, none⟩))) w := by
               unfold execOp
               rw [e]
               simp [hu, Instr.arrayAt, run_underlying ok1, show ¬ n < m by omega]
             rw [run]
             exact hK _ _ ⟨_, _, h'.put hd (.iptr m _ b oo (fun j => vs j 0) hD (fun j hj => by have := hv j 0 (by omega) (by omega); simpa using this) (fun j hj => h1 j 0 (by omega) (by omega)) (fun j hj => hr j 0 (by omega) (by omega)))⟩
         · trivial
       · trivial
     · trivial
theorem yb1 (hT : zbw P T) {t t' : Nat} {x y : Operand} {ts : Array TypeId} (hts : ts.toList = [t, t']) (e : o.op = .call { callee := .builtin .copy, args := #[x, y], argTypes := ts }) {vals : List AV} (hv : Ops w.heap D μ a [x, y] vals)
   {ob : Nat -> Option Ob} (hob : ∀ id z, ob id = some z -> g id = some z) {ice : Nat -> Bool} (hice : ∀ id, ice id = false -> c id = false) :
   zcg P base M W nt f g c o a w (ye7 T std t t' ob ice vals) := by
 obtain rfl : ts = #[t, t'] := by apply Array.ext'; simpa using hts
 unfold ye7
 split
 · rename_i id sz off n xv
   obtain ⟨hx, hy, _⟩ := hv
   split
   · rename_i sz0 ag ze e' esz eb eqf p1 p2 p3 hi
     obtain ⟨ok1, ok2⟩ := (hT t _ hi).k
     obtain ⟨ei', hei', hes⟩ := Option.map_eq_some_iff.1 ok2
     simp only [Prod.mk.injEq] at hes
     obtain ⟨hes1, hes2⟩ := hes
     subst hes1; subst hes2
     split
     · rename_i m src hsrc
       have c1 : zde T t' = true := by cases hx : zde T t' <;> simp_all
       have c2 : zbm 1 ei'.size = true := by cases hx : zbm 1 ei'.size <;> simp_all
       have c3 : (T.find e').isSome = true := by cases hx : (T.find e').isSome <;> simp_all
       rw [c1, c2, c3] at hsrc
       simp only [cond_true] at hsrc
       split
       · rename_i ty sz' k get hsz hic hg
         obtain rfl := za1 hsz
         have hg := hob _ _ hg
         have hic := hice _ hic
         split
         · rename_i hsz'
           obtain rfl := za1 hsz'
           intro hb
           have hb' : 0 < n /\ m <= n := by
             have hb : (zbg 0 n && zbm m n) = true := hb
             rw [Bool.and_eq_true, zbn, zdz] at hb
             exact hb
           obtain ⟨news, n1, n2, n3, n4⟩ := zfu (P := P) h hob hsrc hy
           have run : ∀ u w', (Builtin.copy_ #[t, t'] o.type #[a.eval x, a.eval y]).run P w = .ok u w' -> (execOp a.eval o).run P w = .ok (.value u) w' := by
             intro u w' hu
             unfold execOp
             rw [e]
             simp [resolve, invoke, builtin, hu]
           generalize a.eval x = u at hx run
           cases hx with
           | slv => omega
           | sl0 => omega
           | sl _ _ _ _ b z mm cap hμ hn hz ho =>
             obtain ⟨hm, C, t0, fr, hh, hcs, hf, hle, hrow⟩ := h.obs id _ _ hg hμ
             subst hm
             have hmz : off * ei'.size + m * ei'.size <= C.size := by
               have h1 : (off + m) * ei'.size <= (off + cap) * ei'.size := Nat.mul_le_mul_right _ (by omega)
               rw [Nat.add_mul] at h1
               omega
             have h1n : ∀ v ∈ news, one v := (fun v hv => by
               obtain ⟨q, hq⟩ := List.getElem?_of_mem hv
               have hql : q < m * ei'.size := by rw [<- n1]; exact (List.getElem?_eq_some_iff.1 hq).1
               have h0 := zb3 c2
               obtain ⟨v', v1, v2, v3⟩ := n4 (q / ei'.size) (q % ei'.size) (Nat.div_lt_of_lt_mul (by rw [Nat.mul_comm]; exact hql)) (Nat.mod_lt _ (by omega))
               rw [show q / ei'.size * ei'.size + q % ei'.size = q by rw [Nat.mul_comm]; exact Nat.div_add_mod q ei'.size, hq] at v1
               cases v1
               exact v2)
             have hst := zdi P b (off * ei'.size) t0 fr news 0 C w hh (by rw [hcs]; exact hf.1) (by rw [n1]; omega) h1n
             simp only [Nat.add_zero] at hst
             have hso : (sizeOf e').run P w = .ok ei'.size w := by simp [sizeOf, typeInfo, program, Sem.run, hei']
             have hmin : Nat.min m n = m := Nat.min_eq_left hb'.2
             have hfc := n2 w rfl
             have hrun : (Builtin.copy_ #[t, t'] o.type #[.slice (some ⟨b, off * ei'.size, none⟩) n cap, a.eval y]).run P w = .ok (goInt m) (w.setRow b (zb1 C (off * ei'.size) news)) := by
               simp [Builtin.copy_, run_underlying ok1, n3, hmin, hso, hfc, hst]
             intro K Q hK
             unfold Oper.wp
             rw [run _ _ hrun]
             have h1 := h.write (C' := zb1 C (off * ei'.size) news) (ob' := .row ty ei'.size k (fun i j => yiy std ei'.size (L3 std zes off m i) (src (L2 std Nat.sub i off) j) (get i j))) hμ hg (by simp) (by simp) hic hh (fun hD => by
               refine ⟨rfl, _, t0, fr, setRow_heap w b C _ t0 fr hh, by rw [zap, hcs], ⟨hf.1, hf.2.1, zc0 hf.2.2.1 h1n, hf.2.2.2⟩, hle, fun i j hi' hj => ?_⟩
               obtain ⟨y0, y1, y2, y3⟩ := hrow i j hi' hj
               have hin : i * ei'.size + j < C.size := (Array.getElem?_eq_some_iff.1 y1).1
               rw [zaj _ _ _ _ hin]
               by_cases hseg : off <= i /\ i < off + m
               · have hB : L3 std zes off m i = true := by
                   show (zbm off i && zbg i (off + m)) = true
                   rw [Bool.and_eq_true, zbn, zdz]
                   exact hseg
                 obtain ⟨v, v1, v2, v3⟩ := n4 (i - off) j (by omega) hj
                 have hi1 : i * ei'.size = off * ei'.size + (i - off) * ei'.size := by rw [<- Nat.add_mul]; congr 1; omega
                 have hlt := (List.getElem?_eq_some_iff.1 v1).1
                 have rr : R (w.setRow b (zb1 C (off * ei'.size) news)).heap D zam (yiy std ei'.size (L3 std zes off m i) (src (L2 std Nat.sub i off) j) (get i j)) v := by
                   rw [hB]; exact yaj _ (v3.mono hD (fun _ h => h) (fun _ _ h => h)) _
                 refine ⟨v, ?_, v2, rr⟩
                 rw [if_pos ⟨by omega, by omega⟩, show i * ei'.size + j - off * ei'.size = (i - off) * ei'.size + j by omega]
                 exact v1
               · have hB : L3 std zes off m i = false := by
                   show (zbm off i && zbg i (off + m)) = false
                   cases hq : (zbm off i && zbg i (off + m)) with
                   | false => rfl
                   | true =>
                     rw [Bool.and_eq_true, zbn, zdz] at hq
                     exact absurd hq hseg
                 have rr : R (w.setRow b (zb1 C (off * ei'.size) news)).heap D zam (yiy std ei'.size (L3 std zes off m i) (src (L2 std Nat.sub i off) j) (get i j)) y0 := by
                   rw [hB]; exact zwz _ (y3.mono hD (fun _ h => h) (fun _ _ h => h)) _
                 refine ⟨y0, ?_, y2, rr⟩
                 rw [if_neg]
                 · exact y1
                 · rintro ⟨p1, p2⟩
                   rw [n1] at p2
                   apply hseg
                   constructor
                   · apply Nat.le_of_not_lt
                     intro hlt
                     have h3 : (i + 1) * ei'.size <= off * ei'.size := Nat.mul_le_mul_right _ hlt
                     rw [Nat.add_mul] at h3
                     omega
                   · apply Nat.lt_of_not_le
                     intro hge
                     have h3 : (off + m) * ei'.size <= i * ei'.size := Nat.mul_le_mul_right _ hge
                     rw [Nat.add_mul] at h3
                     omega)
             exact hK _ _ ⟨_, _, h1.put hd (.int _ _)⟩
         · trivial
       · trivial
     · trivial
   · trivial
 · trivial
end
end Sy
end Go.Proofs.YtfonekpmkdkgnaaGreatDoor
namespace Go.Proofs.YtfonekpmkdkgnaaGreatDoor
namespace Sy
open Go Go.RowKit
set_option linter.unusedSimpArgs false
set_option linter.unusedVariables false
theorem zws.eq {kk : KK} {v : Value} {k k' : Ky} (h : zws kk v k) (h' : zws kk v k') : k = k' := by
 cases kk with
 | i ik => obtain ⟨n, rfl, rfl⟩ := h; obtain ⟨n', e, rfl⟩ := h'; cases e; rfl
 | s => obtain ⟨n, rfl, rfl⟩ := h; obtain ⟨n', e, rfl⟩ := h'; cases e; rfl
 | a ks =>
   obtain ⟨l, e1, rfl, rfl⟩ := h; obtain ⟨l', e1', e, rfl⟩ := h'
   congr 1
   have e : ks.zip l = ks.zip l' := by
     have e := congrArg Array.toList (Value.agg.inj e)
     simp only [List.toList_toArray] at e
     refine List.map_inj_right (f := fun x : IntKind × Int => Value.int x.1 x.2) (fun x y hxy => ?_) |>.1 e
     obtain ⟨x1, x2⟩ := x
     obtain ⟨y1, y2⟩ := y
     simp only [Value.int.injEq] at hxy
     rw [hxy.1, hxy.2]
   have := congrArg (List.map Prod.snd) e
   rwa [List.map_snd_zip (by omega), List.map_snd_zip (by omega)] at this
 | no => cases h
theorem zws.val {kk : KK} {v v' : Value} {k : Ky} (h : zws kk v k) (h' : zws kk v' k) : v = v' := by
 cases kk with
 | i ik => obtain ⟨n, rfl, rfl⟩ := h; obtain ⟨n', rfl, e⟩ := h'; cases e; rfl
 | s =>
   obtain ⟨n, rfl, rfl⟩ := h; obtain ⟨n', rfl, e⟩ := h'
   have e := Ky.s.inj e
   congr 1
   exact ByteArray.ext (Array.ext' e)
 | a ks =>
   obtain ⟨l, e1, rfl, rfl⟩ := h; obtain ⟨l', e1', rfl, e⟩ := h'
   cases e; rfl
 | no => cases h
def zo4 : KK -> Bool
 | .i _ => true
 | .s => true
 | _ => false
theorem zkb {a b : KK} (e : yjm a b = true) : a = b /\ zo4 b = true := by
 unfold yjm at e
 split at e
 · obtain rfl := of_decide_eq_true e; exact ⟨rfl, rfl⟩
 · exact ⟨rfl, rfl⟩
 · cases e
theorem zyc {h : Array Obj} {D : Nat -> Prop} {μ : Mu} {kk : KK} {x : AV} {v : Value} {k : Ky} (e : zrj kk x = some k) (r : R h D μ x v) : zws kk v k := by
 unfold zrj at e
 split at e
 · split at e
   · rename_i hk
     obtain rfl := of_decide_eq_true hk
     cases e; cases r; exact ⟨_, rfl, rfl⟩
   · cases e
 · cases e
   cases r with | str _ s q => subst q; exact ⟨s, rfl, rfl⟩
 · rename_i ks cs
   split at e
   · rename_i l hl
     cases e
     obtain ⟨us, rfl, o1, r1⟩ := r.inv_agg
     have key : ∀ (ks : List IntKind) (cs : List AV) (l : List Int) (us : List Value), zod ks cs = some l -> cs.length = us.length -> (∀ (i : Nat) x v, cs[i]? = some x -> us[i]? = some v -> R h D μ x v) ->
         l.length = ks.length /\ us = (ks.zip l).map fun x => Value.int x.1 x.2 := by
       intro ks
       induction ks with
       | nil =>
         intro cs l us e1 e2 _
         cases cs with
         | nil => cases e1; cases us with | nil => exact ⟨rfl, rfl⟩ | cons _ _ => simp at e2
         | cons _ _ => simp [zod] at e1
       | cons k ks ih =>
         intro cs l us e1 e2 hr
         cases cs with
         | nil => simp [zod] at e1
         | cons c cs =>
           cases us with
           | nil => simp at e2
           | cons u us =>
             unfold zod at e1
             split at e1
             · rename_i q1 q2; cases q1
             · rename_i k2 ks2 k' n xs q1 q2
               cases q1; cases q2
               split at e1
               · rename_i hk
                 obtain rfl := of_decide_eq_true hk
                 split at e1
                 · rename_i l' hl'
                   cases e1
                   obtain ⟨i1, i2⟩ := ih cs l' us hl' (by simpa using e2) (fun i x v h1 h2 => hr (i + 1) x v (by simpa using h1) (by simpa using h2))
                   have h0 := hr 0 _ _ rfl rfl
                   have h0 := h0.inv_int
                   exact ⟨by simp [i1], by simp [i2, h0]⟩
                 · cases e1
               · cases e1
             · cases e1
     obtain ⟨k1, k2⟩ := key ks cs l us.toList hl (by rw [r1.1]; simp) (fun i x v h1 h2 => r1.2 i x v h1 (by simpa using h2))
     refine ⟨l, k1, ?_, rfl⟩
     rw [<- k2]
   · cases e
 · cases e
theorem zp1 (c : Bool) : ∀ (xs ys : List AV) (i : Nat), xs.length = ys.length -> (yf5 std c xs ys)[i]? = match xs[i]?, ys[i]? with | some x, some y => some (zer std c x y) | _, _ => none
 | [], [], i, _ => by simp [yf5]
 | x :: xs, y :: ys, 0, _ => by simp [yf5]
 | x :: xs, y :: ys, i + 1, e => by simp [yf5, zp1 c xs ys i (by simpa using e)]
theorem zp0 (c : Bool) : ∀ (xs ys : List AV), xs.length = ys.length -> (yf5 std c xs ys).length = xs.length
 | [], [], _ => by simp [yf5]
 | x :: xs, y :: ys, e => by simp [yf5, zp0 c xs ys (by simpa using e)]
theorem zls {h : Array Obj} {D : Nat -> Prop} {μ : Mu} {x : AV} {v : Value} (r : R h D μ x v) (y : AV) : R h D μ (yix std true x y) v := by
 unfold yix
 split
 · rename_i xs ys
   split
   · rename_i hl
     have hl := za1 hl
     rw [zai, zai] at hl
     obtain ⟨us, rfl, o1, r1⟩ := r.inv_agg
     refine .agg _ _ (by rw [zp0 _ _ _ hl, r1.1]) o1 (fun i z u hz hu => ?_)
     rw [zp1 _ _ _ _ hl] at hz
     split at hz
     · rename_i x y hx hy
       cases hz
       exact zch (r1.2 i x u hx hu) y
     · cases hz
   · exact .dead _
 · exact zch r _
theorem zjv {h : Array Obj} {D : Nat -> Prop} {μ : Mu} {y : AV} {v : Value} (r : R h D μ y v) (x : AV) : R h D μ (yix std false x y) v := by
 unfold yix
 split
 · rename_i xs ys
   split
   · rename_i hl
     have hl := za1 hl
     rw [zai, zai] at hl
     obtain ⟨us, rfl, o1, r1⟩ := r.inv_agg
     refine .agg _ _ (by rw [zp0 _ _ _ hl, hl, r1.1]) o1 (fun i z u hz hu => ?_)
     rw [zp1 _ _ _ _ hl] at hz
     split at hz
     · rename_i x y hx hy
       cases hz
       exact zbj (r1.2 i y u hy hu) x
     · cases hz
   · exact .dead _
 · exact zbj r _
def yvi (h : Array Obj) (D : Nat -> Prop) (kk : KK) (n : Nat) (has : Ky -> Bool) (val : Ky -> AV) (b : Nat) (es : Array MapEntry) (clock : Nat) (kf : Nat -> Ky) : Prop :=
 h[b]? = some (.map es clock) /\ es.size = n /\ zfq kk has es clock kf /\ ∀ (i : Nat) e, es[i]? = some e -> R h D zam (val (kf i)) e.val
section
variable {P : Program} {T : TT} {base : Nat} {M : Two} {W : World} {nt : Nat} {f : Nat -> Option AV} {g : Nat -> Option Ob} {c : Nat -> Bool} {a : Act} {w : World} {D : Nat -> Prop} {μ : Mu} {o : Oper}
theorem yh6 (hT : zbw P T) {kt : Nat} (hp : zo4 (zhw T kt) = true) : (∃ k, zhw T kt = .i k /\ P.underlying kt = some (.int k)) \/ zhw T kt = .s /\ P.underlying kt = some .string := by
 cases hf : T.find kt with
 | none => simp [zhw, hf, zo4] at hp
 | some i =>
   have hk := (hT _ _ hf).k
   cases hik : i.k with
   | int k => rw [hik] at hk; exact .inl ⟨k, by simp [zhw, hf, hik], hk⟩
   | str => rw [hik] at hk; exact .inr ⟨by simp [zhw, hf, hik], hk⟩
   | _ =>
     exfalso
     simp only [zhw, hf, hik] at hp
     split at hp <;> cases hp
theorem ylx (hT : zbw P T) {kt : Nat} {v : Value} {k : Ky} (h : zws (zhw T kt) v k) (hp : zo4 (zhw T kt) = true) : ∃ d, P.underlying kt = some d /\ MapKept.IsKey d v /\ ∀ v' k', zws (zhw T kt) v' k' -> MapKept.IsKey d v' := by
 rcases yh6 hT hp with ⟨ik, e, hu⟩ | ⟨e, hu⟩
 · rw [e] at h |-
   refine ⟨_, hu, ?_, ?_⟩
   · obtain ⟨n, rfl, _⟩ := h; rfl
   · rintro v' k' ⟨n, rfl, _⟩; rfl
 · rw [e] at h |-
   refine ⟨_, hu, ?_, ?_⟩
   · obtain ⟨n, rfl, _⟩ := h; trivial
   · rintro v' k' ⟨n, rfl, _⟩; trivial
theorem zho (hT : zbw P T) {kt : Nat} {has : Ky -> Bool} {es : Array MapEntry} {clock : Nat} {kf : Nat -> Ky} (ok : zfq (zhw T kt) has es clock kf) {v : Value} {k : Ky} (hk : zws (zhw T kt) v k) (hp : zo4 (zhw T kt) = true) (w : World) :
   (∀ b, (Instr.checkKey b 10000 kt v).run P w = .ok () w) /\ (Instr.keyThatStays v v).run P w = .ok v w /\
   ((has k = false /\ (Instr.findKey kt v es.toList).run P w = .ok none w /\ ∀ x ∈ es.toList, x.key ≠ v) \/
     ∃ j e, has k = true /\ kf j = k /\ es[j]? = some e /\ e.key = v /\ (Instr.findKey kt v es.toList).run P w = .ok (some (j, e.val)) w) := by
 obtain ⟨d, hd, h1, h2⟩ := ylx hT hk hp
 refine ⟨fun b => MapKept.run_checkKey hd h1 b 9999, MapKept.run_keyThatStays h1, ?_⟩
 rcases MapKept.findNow_spec h1 es.toList 0 (fun x hx => by
   obtain ⟨i, hi⟩ := List.getElem?_of_mem hx
   exact h2 _ _ (ok.key i x (by simpa using hi)).1) with ⟨f1, f2⟩ | ⟨j, e, f1, f2, f3⟩
 · refine .inl ⟨?_, MapKept.run_findKey hd f1, f2⟩
   cases hh : has k with
   | false => rfl
   | true =>
     obtain ⟨i, hi, he⟩ := ok.all k hh
     have := (ok.key i es[i] (by simp [hi])).1
     rw [he] at this
     exact absurd (this.val hk) (f2 _ (by simp))
 · have f2 : es[j]? = some e := by simpa using f2
   have := ok.key j e f2
   rw [f3] at this
   have hkk := this.1.eq hk
   exact .inr ⟨j, e, by rw [<- hkk]; exact this.2, hkk, f2, f3, by rw [MapKept.run_findKey hd f1, Nat.zero_add]⟩
variable (h : Sim base M W nt f g c a w D μ) (hd : ∀ d, o.dst = some d -> d < nt)
include h hd
theorem yau (hT : zbw P T) {t : TypeId} (e : o.op = .makeMap t none) : zcg P base M W nt f g c o a w (ynn T o.dst t (zds g o.op o.dst)) := by
 unfold ynn
 split
 · rename_i d hc
   obtain ⟨hn, hdst⟩ := zcl hc
   have hnew : g d = none := by
     simp only [zds, e, zd0, hdst] at hn
     cases hg : g d with
     | none => rfl
     | some _ => rw [hg] at hn; cases hn
   split
   · rename_i sz ag ze kt et eqf p1 p2 p3 hi
     have run : (execOp a.eval o).run P w = .ok (.value (.map (some w.heap.size))) (w.alloc (.map #[] 0)) := by
       unfold execOp
       rw [e]
       simp [Instr.makeMap]
     intro K Q hK
     unfold Oper.wp
     rw [run]
     have h1 := h.newO (hd _ hdst) hnew (.map (zhw T kt) 0 (fun _ => false) (fun _ => .dead)) (.map #[] 0) 0 0 (by simp)
       ⟨#[], 0, fun _ => .i 0, heap_alloc_new _ _, rfl, ⟨fun i x hx => (by simp at hx), fun k hk => (by cases hk), MapKept.stamped_empty 0⟩, fun i x hx => (by simp at hx)⟩
     exact hK _ _ ⟨_, _, h1.put hd (.mp _ _ 0 0 (by simp))⟩
   · trivial
 · trivial
omit hd in
theorem zvq {ob : Nat -> Option Ob} (hob : ∀ id z, ob id = some z -> g id = some z) {m : AV} {kk : KK} {n : Nat} {has : Ky -> Bool} {val : Ky -> AV} (e : ygj ob m = some (kk, n, has, val)) {v : Value} (r : R w.heap D μ m v) :
   ∃ b es clock kf, v = .map (some b) /\ yvi w.heap D kk n has val b es clock kf := by
 unfold ygj at e
 split at e
 · rename_i id
   split at e
   · rename_i hg
     cases e
     cases r with
     | mp _ b z m hμ =>
       obtain ⟨es, clock, kf, hh⟩ := h.obs id _ _ (hob _ _ hg) hμ
       exact ⟨b, es, clock, kf, rfl, hh⟩
   · cases e
 · cases e
   cases r with
   | mpi _ _ _ _ b es clock kf hD hb hn hk hr => exact ⟨b, es, clock, kf, rfl, hb, hn, hk, hr⟩
 · cases e
theorem yfb (hT : zbw P T) {x : Operand} {t : Nat} {r : List Nat} {ts : Array TypeId} (hts : ts.toList = t :: r) (e : o.op = .call { callee := .builtin .len, args := #[x], argTypes := ts }) {vals : List AV}
   (hv : Ops w.heap D μ a [x] vals) {ob : Nat -> Option Ob} (hob : ∀ id z, ob id = some z -> g id = some z) : zcg P base M W nt f g c o a w (yv3 T std t ob vals) := by
 match vals, hv with
 | [v], ⟨hv, _⟩ =>
   have run : ∀ u, (Builtin.len_ ts o.type #[a.eval x]).run P w = .ok u w -> (execOp a.eval o).run P w = .ok (.value u) w := by
     intro u hu
     unfold execOp
     rw [e]
     simp [resolve, invoke, builtin, hu]
   have h0 : ts[0]? = some t := by rw [<- Array.getElem?_toList, hts]; rfl
   generalize a.eval x = u at *
   unfold yv3
   simp only
   split
   · rename_i i hi
     have ok := (hT _ i hi).k
     split
     · rename_i hk
       rw [hk] at ok
       split
       · rename_i l
         obtain ⟨s, rfl, rfl⟩ := hv.inv_str
         refine za0 h hd (u := .int .i64 s.size) (run _ ?_) ?_
         · simp [Builtin.len_, h0, run_underlying ok]; rfl
         · have : std slen s.data.toList = (s.size : Int) := by simp [std, slen]
           rw [this]; exact .int _ _
       · trivial
     · rename_i e' esz eb hk
       rw [hk] at ok
       have ok := ok.1
       have slices : ∀ b n cap, u = .slice b n cap -> Adv P base M W nt f g c o a w (.int .i64 (std zbh n)) [] [] := by
         rintro b n cap rfl
         refine za0 h hd (u := .int .i64 n) (run _ ?_) (.int _ _)
         simp [Builtin.len_, h0, run_underlying ok]; rfl
       split
       · cases hv <;> exact slices _ _ _ rfl
       · cases hv <;> exact slices _ _ _ rfl
       · cases hv <;> exact slices _ _ _ rfl
       · cases hv; exact slices _ 0 _ rfl
       · cases hv; exact slices _ 0 _ rfl
       · cases hv; exact slices _ 0 _ rfl
       · trivial
     · rename_i n e' esz hk
       rw [hk] at ok
       have ok := ok.1
       refine za0 h hd (u := .int .i64 n) (run _ ?_) (.int _ _)
       simp [Builtin.len_, h0, run_underlying ok]; rfl
     · rename_i kt et hk
       rw [hk] at ok
       simp only [kOk] at ok
       split
       · cases hv
         refine za0 h hd (u := .int .i64 0) (run _ ?_) (.int _ _)
         simp [Builtin.len_, h0, run_underlying ok]; rfl
       · split
         · rename_i kk n has val hmo
           obtain ⟨b, es, clock, kf, rfl, hb, hn, -⟩ := zvq h hob hmo hv
           refine za0 h hd (u := .int .i64 n) (run _ ?_) (.int _ _)
           simp [Builtin.len_, h0, run_underlying ok, MapKept.run_getObj_map hb, Result.andThen, hn]; rfl
         · trivial
     · trivial
   · trivial
theorem yav (hT : zbw P T) {t : TypeId} {x y : Operand} {ok : Bool} (e : o.op = .lookup t x y ok) {vals : List AV} (hv : Ops w.heap D μ a [x, y] vals) {ob : Nat -> Option Ob} (hob : ∀ id z, ob id = some z -> g id = some z) :
   zcg P base M W nt f g c o a w (yno T std t ok ob vals) := by
 match vals, hv with
 | [m, k], ⟨hm, hk, _⟩ =>
   unfold yno
   simp only
   split
   · rename_i sz ag ze kt et eqf p1 p2 p3 hi
     have hu := (hT t _ hi).k
     simp only [kOk] at hu
     split
     · rename_i ei hei
       split
       · rename_i kk n has val hmo
         split
         · rename_i key hkk hke
           obtain ⟨rfl, hp⟩ := zkb hkk
           obtain ⟨b, es, clock, kf, hmv, hb, hn, hks, hr⟩ := zvq h hob hmo hm
           have hkey := zyc hke hk
           obtain ⟨f1, f2, f3⟩ := zho hT hks hkey hp w
           obtain ⟨z, z1, z2⟩ := (hT et ei hei).zeroR
           have rz : R w.heap D μ (zge ei) z := z2 _ _ _
           obtain ⟨u, hrun, ru⟩ : ∃ u, (Instr.lookup t (a.eval x) (a.eval y) ok).run P w = .ok (cond ok (.tuple #[u, .bool (has key)]) u) w /\ R w.heap D μ (yix std (has key) (val key) (zge ei)) u := by
             rcases f3 with ⟨g1, g2, _⟩ | ⟨j, x', g1, g2, g3, g4, g5⟩
             · refine ⟨z, ?_, by rw [g1]; exact zjv rz _⟩
               rw [hmv]
               unfold Instr.lookup
               simp only [Sem.run_bind, run_underlying hu, Result.andThen_ok, MapKept.run_getObj_map hb, f1, g2, z1, Sem.run_pure, g1]
               cases ok <;> rfl
             · have rj := (hr j x' g3).free (μ := μ)
               rw [g2] at rj
               refine ⟨x'.val, ?_, by rw [g1]; exact zls rj _⟩
               rw [hmv]
               unfold Instr.lookup
               simp only [Sem.run_bind, run_underlying hu, Result.andThen_ok, MapKept.run_getObj_map hb, f1, g5, Sem.run_pure, g1]
               cases ok <;> rfl
           cases ok with
           | true =>
             refine za0 h hd (u := .tuple #[u, .bool (has key)]) ?_ (.tup _ _ rfl (fun i x' v hx hv => ?_))
             · unfold execOp
               rw [e]
               simp [hrun]
             · match i with
               | 0 => simp at hx hv; subst hx; subst hv; exact ru
               | 1 => simp at hx hv; subst hx; subst hv; exact .bool _
               | i + 2 => simp at hx
           | false =>
             refine za0 h hd (u := u) ?_ ru
             unfold execOp
             rw [e]
             simp [hrun]
         · trivial
       · trivial
     · trivial
   · trivial
theorem yf8 (hT : zbw P T) {t : TypeId} {x y v : Operand} (e : o.op = .mapUpdate t x y v) {vals : List AV} (hv : Ops w.heap D μ a [x, y, v] vals) {ob : Nat -> Option Ob} (hob : ∀ id z, ob id = some z -> g id = some z) {ice : Nat -> Bool} (hice : ∀ id, ice id = false -> c id = false) :
   zcg P base M W nt f g c o a w (yv2 T std t ob ice vals) := by
 unfold yv2
 split
 · rename_i id k val'
   obtain ⟨hm, hk, hx, _⟩ := hv
   split
   · rename_i sz ag ze kt et eqf p1 p2 p3 hi
     have hu := (hT t _ hi).k
     simp only [kOk] at hu
     split
     · rename_i kk n has val hic hg
       have hic := hice _ hic
       have hg := hob _ _ hg
       split
       · rename_i key hkk hke
         obtain ⟨rfl, hp⟩ := zkb hkk
         split
         · rename_i v' himm hnot
           have hkey := zyc hke hk
           obtain ⟨l2, l1⟩ := ycr h hob himm (ids := zw2 val') (fun _ h => h)
           have l1 := l1 _ hx
           have h' := h.freeze (zw2 val') l2
           have hic' : zjd c (zw2 val') id = false := by simp [zjd, hnot, hic]
           generalize hum : a.eval x = um at hm
           cases hm with
           | mp _ b z m hμ =>
             obtain ⟨es, clock, kf, hb, hn, hks, hr⟩ := h'.obs id _ _ hg hμ
             obtain ⟨f1, f2, f3⟩ := zho hT hks hkey hp w
             obtain ⟨es', clock', kf', hrun, hn', hks', hr'⟩ : ∃ es' clock' kf', (Instr.mapUpdate t (.map (some b)) (a.eval y) (a.eval v)).run P w = .ok () { w with heap := w.heap.setIfInBounds b (.map es' clock') } /\ es'.size = L2 std yqm (std has key) n /\
                 zfq (zhw T kt) (zj8 std key has) es' clock' kf' /\ ∀ (i : Nat) e, es'[i]? = some e -> R w.heap (fun b => D b \/ ∃ id z m, id ∈ zw2 val' /\ μ id = some (some (b, z, m))) zam (zlk std key v' val (kf' i)) e.val := by
               rcases f3 with ⟨g1, g2, g3⟩ | ⟨j, x', g1, g2, g3, g4, g5⟩
               · refine ⟨es.push { key := a.eval y, val := a.eval v, born := clock }, clock + 1, fun i => if i = es.size then key else kf i, ?_, ?_, ?_, ?_⟩
                 · simp [Instr.mapUpdate, run_underlying hu, MapKept.run_getObj_map hb, f1, g2, MapKept.run_setObj_map _ hb, Result.andThen]
                 · simp [L2, std, yqm, g1, hn]
                 · refine ⟨fun i x' hx' => ?_, fun k' hk' => ?_, MapKept.stamped_push hks.st g3⟩
                   · rw [Array.getElem?_push] at hx'
                     split at hx'
                     · rename_i hi'; cases hx'; rw [if_pos hi']; exact ⟨hkey, by simp [zj8, L2, std, zvu]⟩
                     · rename_i hi'; rw [if_neg hi']
                       obtain ⟨q1, q2⟩ := hks.key i x' hx'
                       exact ⟨q1, by simp [zj8, L2, std, q2]⟩
                   · simp only [zj8, L2, std, zvu, Bool.or_eq_true, decide_eq_true_eq] at hk'
                     rcases hk' with rfl | hk'
                     · exact ⟨es.size, by simp, by simp⟩
                     · obtain ⟨i, i1, i2⟩ := hks.all k' hk'
                       exact ⟨i, by simp; omega, by rw [if_neg (by omega)]; exact i2⟩
                 · intro i x' hx'
                   rw [Array.getElem?_push] at hx'
                   split at hx'
                   · rename_i hi'; cases hx'; simp only [hi', if_true]
                     simp only [zlk, L2, std, zvu, decide_true]
                     exact zls l1 _
                   · rename_i hi'; simp only [if_neg hi']
                     have hne : ¬ kf i = key := by
                       rintro q
                       have := (hks.key i x' hx').2
                       rw [q, g1] at this; cases this
                     simp only [zlk, L2, std, zvu, decide_eq_false hne]
                     exact zjv (hr i x' hx') _
               · have hlt : j < es.size := (Array.getElem?_eq_some_iff.1 g3).1
                 refine ⟨es.modify j fun e => { e with key := a.eval y, val := a.eval v }, clock, kf, ?_, ?_, ?_, ?_⟩
                 · simp [Instr.mapUpdate, run_underlying hu, MapKept.run_getObj_map hb, f1, f2, g3, g4, g5, MapKept.run_setObj_map _ hb, Result.andThen]
                 · simp [L2, std, yqm, g1, hn]
                 · refine ⟨fun i x2 hx2 => ?_, fun k' hk' => ?_, MapKept.stamped_modify hks.st _ _ (fun _ _ => rfl) (fun e' _ he' => by rw [g3] at he'; cases he'; exact g4.symm)⟩
                   · rw [Array.getElem?_modify] at hx2
                     split at hx2
                     · rename_i hi'
                       subst hi'
                       rw [g3] at hx2
                       cases hx2
                       rw [g2]
                       exact ⟨hkey, by simp [zj8, L2, std, zvu]⟩
                     · obtain ⟨q1, q2⟩ := hks.key i x2 hx2
                       exact ⟨q1, by simp [zj8, L2, std, q2]⟩
                   · simp only [zj8, L2, std, zvu, Bool.or_eq_true, decide_eq_true_eq] at hk'
                     rcases hk' with rfl | hk'
                     · exact ⟨j, by simpa using hlt, g2⟩
                     · obtain ⟨i, i1, i2⟩ := hks.all k' hk'
                       exact ⟨i, by simpa using i1, i2⟩
                 · intro i x2 hx2
                   rw [Array.getElem?_modify] at hx2
                   split at hx2
                   · rename_i hi'
                     subst hi'
                     rw [g3] at hx2
                     cases hx2
                     rw [g2]
                     simp only [zlk, L2, std, zvu, decide_true]
                     exact zls l1 _
                   · rename_i hi'
                     have hne : ¬ kf i = key := by
                       rintro q
                       have k1 := (hks.key i x2 hx2).1
                       rw [q] at k1
                       have k3 : x2.key = x'.key := by rw [g4]; exact k1.val hkey
                       have hi2 : i < es.size := (Array.getElem?_eq_some_iff.1 hx2).1
                       have nd := hks.st.2.2
                       have p1 : (es.toList.map (·.key))[i]? = some x2.key := by simp [hx2]
                       have p2 : (es.toList.map (·.key))[j]? = some x'.key := by simp [g3]
                       rw [k3, <- p2] at p1
                       have := (List.getElem?_inj (by simpa using hi2) nd).1 p1
                       exact hi' this.symm
                     simp only [zlk, L2, std, zvu, decide_eq_false hne]
                     exact zjv (hr i x2 hx2) _
             have hblt : b < w.heap.size := (Array.getElem?_eq_some_iff.1 hb).1
             have run : (execOp a.eval o).run P w = .ok .skip { w with heap := w.heap.setIfInBounds b (.map es' clock') } := by
               unfold execOp
               rw [e]
               simp [hum, hrun]
             intro K Q hK
             unfold Oper.wp
             rw [run]
             have h1 := h'.turn (ob' := .map (zhw T kt) (L2 std yqm (std has key) n) (zj8 std key has) (zlk std key v' val)) (w' := { w with heap := w.heap.setIfInBounds b (.map es' clock') }) hμ hg (by simp) trivial hic' rfl rfl rfl (by simp) (fun k' hk' => by simp [Ne.symm hk'])
               (fun hD => ⟨es', clock', kf', by simp [hblt], hn', hks', fun i x' hx' => (hr' i x' hx').mono hD (fun _ h => h) (fun _ _ h => h)⟩)
             exact hK _ _ ⟨_, _, h1.put hd (.dead _)⟩
         · trivial
       · trivial
     · trivial
   · trivial
 · trivial
theorem yas (hT : zbw P T) {x y : Operand} {t t' : Nat} {ts : Array TypeId} (hts : ts.toList = [t, t']) (e : o.op = .call { callee := .builtin .delete, args := #[x, y], argTypes := ts }) {vals : List AV} (hv : Ops w.heap D μ a [x, y] vals) {ob : Nat -> Option Ob} (hob : ∀ id z, ob id = some z -> g id = some z) {ice : Nat -> Bool} (hice : ∀ id, ice id = false -> c id = false) :
   zcg P base M W nt f g c o a w (zul T std t ob ice vals) := by
 have hts' : ts = #[t, t'] := by apply Array.ext'; simpa using hts
 subst hts'
 unfold zul
 split
 · rename_i id k
   obtain ⟨hm, hk, _⟩ := hv
   split
   · rename_i sz ag ze kt et eqf p1 p2 p3 hi
     have hu := (hT t _ hi).k
     simp only [kOk] at hu
     split
     · rename_i kk n has val hic hg
       have hic := hice _ hic
       have hg := hob _ _ hg
       split
       · rename_i key hkk hke
         obtain ⟨rfl, hp⟩ := zkb hkk
         have hkey := zyc hke hk
         generalize hum : a.eval x = um at hm
         cases hm with
         | mp _ b z m hμ =>
           obtain ⟨es, clock, kf, hb, hn, hks, hr⟩ := h.obs id _ _ hg hμ
           obtain ⟨f1, f2, f3⟩ := zho hT hks hkey hp w
           obtain ⟨es', kf', hrun, hn', hks', hr'⟩ : ∃ es' kf', (Builtin.delete_ #[t, t'] o.type #[.map (some b), a.eval y]).run P w = .ok (.tuple #[]) { w with heap := w.heap.setIfInBounds b (.map es' clock) } /\ es'.size = L2 std yqn (std has key) n /\
               zfq (zhw T kt) (zkp std key has) es' clock kf' /\ ∀ (i : Nat) e, es'[i]? = some e -> R w.heap D zam (val (kf' i)) e.val := by
             rcases f3 with ⟨g1, g2, g3⟩ | ⟨j, x', g1, g2, g3, g4, g5⟩
             · refine ⟨es, kf, ?_, by simp [L2, std, yqn, g1, hn], ⟨fun i x' hx' => ⟨(hks.key i x' hx').1, ?_⟩, fun k' hk' => hks.all k' ?_, hks.st⟩, hr⟩
               · simp [Builtin.delete_, run_underlying hu, MapKept.run_getObj_map hb, f1, g2, MapKept.run_setObj_map _ hb, Result.andThen]
               · have q := (hks.key i x' hx').2
                 have hne : ¬ kf i = key := by rintro e'; rw [e', g1] at q; cases q
                 simp [zkp, L2, std, zvu, ys7, hne, q]
               · simp only [zkp, L2, std, ys7, Bool.and_eq_true] at hk'; exact hk'.2
             · have hlt : j < es.size := (Array.getElem?_eq_some_iff.1 g3).1
               have hers : ∀ i : Nat, (es.eraseIdxIfInBounds j)[i]? = if i < j then es[i]? else es[i + 1]? := by
                 intro i
                 unfold Array.eraseIdxIfInBounds
                 rw [dif_pos hlt, Array.getElem?_eraseIdx]
               have inj : ∀ i e, es[i]? = some e -> kf i = key -> i = j := by
                 intro i e1 he1 q
                 have k1 := (hks.key i e1 he1).1
                 rw [q] at k1
                 have k3 : e1.key = x'.key := by rw [g4]; exact k1.val hkey
                 have hi2 : i < es.size := (Array.getElem?_eq_some_iff.1 he1).1
                 have p1 : (es.toList.map (·.key))[i]? = some e1.key := by simp [he1]
                 have p2 : (es.toList.map (·.key))[j]? = some x'.key := by simp [g3]
                 rw [k3, <- p2] at p1
                 exact (List.getElem?_inj (by simpa using hi2) hks.st.2.2).1 p1
               refine ⟨es.eraseIdxIfInBounds j, fun i => if i < j then kf i else kf (i + 1), ?_, ?_, ⟨fun i x2 hx2 => ?_, fun k' hk' => ?_, MapKept.stamped_erase hks.st j⟩, fun i x2 hx2 => ?_⟩
               · simp [Builtin.delete_, run_underlying hu, MapKept.run_getObj_map hb, f1, g5, MapKept.run_setObj_map _ hb, Result.andThen]
               · simp only [L2, std, yqn, g1, cond_true, <- hn]
                 unfold Array.eraseIdxIfInBounds
                 rw [dif_pos hlt]
                 simp
               · rw [hers] at hx2
                 have fin : ∀ i' (e2 : MapEntry), es[i']? = some e2 -> i' ≠ j -> zws (zhw T kt) e2.key (kf i') /\ zkp std key has (kf i') = true := by
                   intro i' e2 he2 hne
                   obtain ⟨q1, q2⟩ := hks.key i' e2 he2
                   exact ⟨q1, by simp only [zkp, L2, std, ys7, zvu, q2, Bool.and_true, Bool.not_eq_true', decide_eq_false_iff_not]; exact fun q => hne (inj i' e2 he2 q)⟩
                 by_cases hij : i < j
                 · rw [if_pos hij] at hx2; simp only [if_pos hij]; exact fin i x2 hx2 (by omega)
                 · rw [if_neg hij] at hx2; simp only [if_neg hij]; exact fin (i + 1) x2 hx2 (by omega)
               · simp only [zkp, L2, std, ys7, zvu, Bool.and_eq_true, Bool.not_eq_true', decide_eq_false_iff_not] at hk'
                 obtain ⟨i, i1, i2⟩ := hks.all k' hk'.2
                 have hij : i ≠ j := by rintro rfl; rw [g2] at i2; exact hk'.1 i2.symm
                 have hsz : (es.eraseIdxIfInBounds j).size = es.size - 1 := by
                   unfold Array.eraseIdxIfInBounds
                   rw [dif_pos hlt]
                   simp
                 rw [hsz]
                 by_cases hlt' : i < j
                 · exact ⟨i, by omega, by simp only [if_pos hlt']; exact i2⟩
                 · exact ⟨i - 1, by omega, by simp only [if_neg (show ¬ i - 1 < j by omega)]; rw [show i - 1 + 1 = i by omega]; exact i2⟩
               · rw [hers] at hx2
                 by_cases hij : i < j
                 · rw [if_pos hij] at hx2; simp only [if_pos hij]; exact hr i x2 hx2
                 · rw [if_neg hij] at hx2; simp only [if_neg hij]; exact hr (i + 1) x2 hx2
           have hblt : b < w.heap.size := (Array.getElem?_eq_some_iff.1 hb).1
           have run : (execOp a.eval o).run P w = .ok (.value (.tuple #[])) { w with heap := w.heap.setIfInBounds b (.map es' clock) } := by
             unfold execOp
             rw [e]
             simp [resolve, invoke, builtin, hum, hrun]
           intro K Q hK
           unfold Oper.wp
           rw [run]
           have h1 := h.turn (ob' := .map (zhw T kt) (L2 std yqn (std has key) n) (zkp std key has) val) (w' := { w with heap := w.heap.setIfInBounds b (.map es' clock) }) hμ hg (by simp) trivial hic rfl rfl rfl (by simp) (fun k' hk' => by simp [Ne.symm hk'])
             (fun hD => ⟨es', clock, kf', by simp [hblt], hn', hks', fun i x' hx' => (hr' i x' hx').mono hD (fun _ h => h) (fun _ _ h => h)⟩)
           exact hK _ _ ⟨_, _, h1.put hd (.tup _ _ rfl (fun i x v hx => by simp at hx))⟩
       · trivial
     · trivial
   · trivial
 · trivial
end
end Sy
end Go.Proofs.YtfonekpmkdkgnaaGreatDoor
