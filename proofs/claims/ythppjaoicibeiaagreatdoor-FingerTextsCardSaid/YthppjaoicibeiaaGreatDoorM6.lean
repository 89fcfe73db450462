/-The laws of chapter 11 (finger): FingerTexts. From a row's listed variables to what the executor asks of them (GOk).-/
import Derived.Test.YthppjaoicibeiaaGreatDoorM5
import Derived.Test.YthppjaoicibeiaaGreatDoorM1
import Derived.ProofKit
import Derived.OpenShut
import Derived.LaidMore
import Derived.Lay
import Derived.Stop.Joined
import Derived.Lib.LaidTab
import Derived.Handed
import Derived.Shelf.Vars
namespace Go.Proofs.YthppjaoicibeiaaGreatDoor
namespace Sy
open Go Go.RowKit
set_option maxRecDepth 100000
set_option linter.unusedSimpArgs false
set_option linter.unusedVariables false
def leS (s : List UInt8) (i : Nat) : Prop := i <= s.length
def goS (s : List UInt8) (i : Nat) : Nat := s.length - i
def lfA (L : zaa) (s : List UInt8) : Nat -> St -> Option Ann := fun id st => match id with
 | 0 => some ⟨Nat, fun i => [(34, .int .i64 (L zan i)), (10, .bool (L2 L riZ s i))], fun i => [], [1, 2, 5, 6, 7, 8, 9, 33], [2, 6, 8], fun i => L2 L leS s i, fun i => L2 L goS s i⟩
 | _ => none
theorem yf4 {l : List Int} (h : l.length = 16) : yvu (zpv l) (ieq (za2 l 0) 0 && (ieq (za2 l 1) 0 && (ieq (za2 l 2) 0 && (ieq (za2 l 3) 0 && (ieq (za2 l 4) 0 && (ieq (za2 l 5) 0 && (ieq (za2 l 6) 0 && (ieq (za2 l 7) 0 && (ieq (za2 l 8) 0 && (ieq (za2 l 9) 0 && (ieq (za2 l 10) 0 && (ieq (za2 l 11) 0 && (ieq (za2 l 12) 0 && (ieq (za2 l 13) 0 && (ieq (za2 l 14) 0 && (ieq (za2 l 15) 0 && true)))))))))))))))) = true := by
 obtain ⟨a0, a1, a2, a3, a4, a5, a6, a7, a8, a9, a10, a11, a12, a13, a14, a15, rfl⟩ := l16 h
 have e : zpv [a0, a1, a2, a3, a4, a5, a6, a7, a8, a9, a10, a11, a12, a13, a14, a15] = (ieq (za2 [a0, a1, a2, a3, a4, a5, a6, a7, a8, a9, a10, a11, a12, a13, a14, a15] 0) 0 && (ieq (za2 [a0, a1, a2, a3, a4, a5, a6, a7, a8, a9, a10, a11, a12, a13, a14, a15] 1) 0 && (ieq (za2 [a0, a1, a2, a3, a4, a5, a6, a7, a8, a9, a10, a11, a12, a13, a14, a15] 2) 0 && (ieq (za2 [a0, a1, a2, a3, a4, a5, a6, a7, a8, a9, a10, a11, a12, a13, a14, a15] 3) 0 && (ieq (za2 [a0, a1, a2, a3, a4, a5, a6, a7, a8, a9, a10, a11, a12, a13, a14, a15] 4) 0 && (ieq (za2 [a0, a1, a2, a3, a4, a5, a6, a7, a8, a9, a10, a11, a12, a13, a14, a15] 5) 0 && (ieq (za2 [a0, a1, a2, a3, a4, a5, a6, a7, a8, a9, a10, a11, a12, a13, a14, a15] 6) 0 && (ieq (za2 [a0, a1, a2, a3, a4, a5, a6, a7, a8, a9, a10, a11, a12, a13, a14, a15] 7) 0 && (ieq (za2 [a0, a1, a2, a3, a4, a5, a6, a7, a8, a9, a10, a11, a12, a13, a14, a15] 8) 0 && (ieq (za2 [a0, a1, a2, a3, a4, a5, a6, a7, a8, a9, a10, a11, a12, a13, a14, a15] 9) 0 && (ieq (za2 [a0, a1, a2, a3, a4, a5, a6, a7, a8, a9, a10, a11, a12, a13, a14, a15] 10) 0 && (ieq (za2 [a0, a1, a2, a3, a4, a5, a6, a7, a8, a9, a10, a11, a12, a13, a14, a15] 11) 0 && (ieq (za2 [a0, a1, a2, a3, a4, a5, a6, a7, a8, a9, a10, a11, a12, a13, a14, a15] 12) 0 && (ieq (za2 [a0, a1, a2, a3, a4, a5, a6, a7, a8, a9, a10, a11, a12, a13, a14, a15] 13) 0 && (ieq (za2 [a0, a1, a2, a3, a4, a5, a6, a7, a8, a9, a10, a11, a12, a13, a14, a15] 14) 0 && (ieq (za2 [a0, a1, a2, a3, a4, a5, a6, a7, a8, a9, a10, a11, a12, a13, a14, a15] 15) 0 && true)))))))))))))))) := by
   simp [zpv, ieq, za2, Bool.beq_eq_decide_eq]
 rw [e]
 unfold yvu
 exact beq_self_eq_true _
theorem zwf (l : List Int) (hl : zm7 l) (s : List UInt8) (hs : s.length <= maxLen) : za9 Tryz.prog 7 [c16 std l, .str s] (.bool true) := by
 refine za8 (T := tt) (S := fun L => zad [tru 21, yi4 L, yok L, yma L, yf5 L]) (lo := fun L => lfA L s) (lb := noA) 5 (fn := Tryz.f7) (xs := fun L => [c16 L l, .str s]) rfl rfl (by kernel_rfl) (by kernel_rfl) rfl zab (za1 ⟨zbe zyj, zvu, yi5, yga, zu5, trivial⟩) (by kernel_rfl) ?_
 intro L P' Q' hL hP hQ
 have hE : ∀ l : List Int, l.length = 16 -> [L (L za2 l) 0, L (L za2 l) 1, L (L za2 l) 2, L (L za2 l) 3, L (L za2 l) 4, L (L za2 l) 5, L (L za2 l) 6, L (L za2 l) 7, L (L za2 l) 8, L (L za2 l) 9, L (L za2 l) 10, L (L za2 l) 11, L (L za2 l) 12, L (L za2 l) 13, L (L za2 l) 14, L (L za2 l) 15] = l := by subst hL; exact fun l h => e16 h
 have hlp : ∀ s, (zjf s).length = 16 := fun s => by
   unfold zjf
   split <;> simp
 have hE1 := hE l hl.1
 (cbv; try simp only [syT, true_and, and_true])
 have hE2 := hE (L zjf s) (by subst hL; exact hlp s)
 have hE3 := hE (L zjf (L zjp l)) (by subst hL; exact hlp _)
 clear hE
 simp only [hE1]
 refine ⟨fun h => ?_, fun _ => ⟨fun h => ?_, fun h100 => ⟨?_, ?_, ?_, ⟨0, ?_⟩, fun i hi => ?_⟩⟩⟩
 · subst hL
   exact absurd h (by decide)
 · (subst hL; subst hQ; simp only [L2, L3, std] at *; try simp only [syS, reduceCtorEq, Int.reduceToNat, Int.reduceAdd, Int.reduceSub] at *)
 · (subst hL; subst hQ; simp only [L2, L3, std] at *; try simp only [syS, reduceCtorEq, Int.reduceToNat, Int.reduceAdd, Int.reduceSub] at *)
   exact hl
 · (subst hL; subst hQ; simp only [L2, L3, std] at *; try simp only [syS, reduceCtorEq, Int.reduceToNat, Int.reduceAdd, Int.reduceSub] at *)
   show (zjp l).length <= 1000000
   rw [zp5 hl]; decide
 · (subst hL; subst hQ; simp only [L2, L3, std] at *; try simp only [syS, reduceCtorEq, Int.reduceToNat, Int.reduceAdd, Int.reduceSub] at *)
   show s.length <= 1000000
   omega
 · (cbv; try simp only [syT, true_and, and_true])
   (subst hL; subst hQ; simp only [L2, L3, std] at *; try simp only [syS, reduceCtorEq, Int.reduceToNat, Int.reduceAdd, Int.reduceSub] at *)
   rw [ri_0]
   exact ⟨yo0 _ _ |>.trans (by rw [decide_eq_decide]; omega), Nat.zero_le _⟩
 · have hi2 : leS s i := by
     have h := hi
     rw [hL] at h
     exact h
   clear hi
   have k1 : L ymu (L zjp l) = 0 := by subst hL; exact if_pos (znc hl)
   have k2 : L zjf (L zjp l) = l := by subst hL; exact yhv hl
   (cbv; try simp only [syT, true_and, and_true])
   simp only [hE1, hE2, hE3, k1, k2]
   have hlen : (↑s.length : Int) <= 100 := by subst hL; have : ilt 100 (slen s) = false := h100; exact Int.not_lt.1 (of_decide_eq_false this)
   clear k1 k2
   refine ⟨fun hlt => ?_, fun hge => ?_⟩
   · clear hE1 hE2 hE3
     repeat' first | refine And.intro ?_ ?_ | refine fun (hh : (_ : Bool) = _) => ?_
     all_goals try (refine ⟨i + 1, ?_⟩; (cbv; try simp only [syT, true_and, and_true]))
     all_goals (subst hL; subst hQ; simp only [L2, L3, std] at *; try simp only [syS, reduceCtorEq, Int.reduceToNat, Int.reduceAdd, Int.reduceSub] at *)
     all_goals try omega
     all_goals rw [ri_s (by omega)]
     all_goals refine ⟨?_, by omega, by show i + 1 <= s.length; omega, by show s.length - (i + 1) + 1 <= s.length - i; omega⟩
     all_goals have hsx : ze2 s (i : Int) = ((s.getD i 0).toNat : Int) := by unfold ze2; rw [Int.toNat_natCast]
     all_goals rw [hsx]
     all_goals unfold yqt
     all_goals try unfold ile
     all_goals generalize ((s.getD i 0).toNat : Int) = c at *
     all_goals rw [Bool.eq_iff_iff]
     all_goals simp only [Bool.and_eq_true, Bool.or_eq_true, decide_eq_true_eq, true_iff, Bool.false_eq_true, false_iff]
     all_goals first
       | exact ⟨‹riZ s i = true›, by omega⟩
       | (refine fun h => ?_; have h1 := h.1; have h2 := h.2; first | omega | (rw [‹riZ s i = false›] at h1; cases h1))
       | exact ⟨fun h => ⟨‹riZ s i = true›, by omega⟩, fun h => by have h2 := h.2; omega⟩
   · have hr : L (L riZ s) i = L zcv s := by
       subst hL
       have hi3 : i <= s.length := hi2
       have : ilt (i : Int) (s.length : Int) = false := hge
       simp [ilt] at this
       obtain rfl : i = s.length := by omega
       exact ys0 s
     simp only [hr, hE1, hE2, hE3]
     clear hE1 hE2 hE3 hr
     (subst hL; subst hQ; simp only [L2, L3, std] at *; try simp only [syS, reduceCtorEq, Int.reduceToNat, Int.reduceAdd, Int.reduceSub] at *)
     have hZ := yf4 hl.1
     cases hr2 : zcv s with
     | true =>
       have e1 : ymu s = 0 := if_pos hr2
       rw [e1]
       have hh := ymt hr2
       exact ⟨hl, fun _ => ⟨fun _ => ⟨hh.1, fun _ => ⟨hl, hZ⟩, fun h => absurd hh.2 h⟩, fun h => by cases h⟩, by decide⟩
     | false =>
       have e1 : ymu s = 4 := if_neg (by rw [hr2]; decide)
       have e2 : zjf s = List.replicate 16 0 := if_neg (by rw [hr2]; decide)
       rw [e1, e2]
       refine ⟨hl, fun _ => ⟨fun h => (by cases h), fun _ => ⟨fun _ => ⟨fun _ => ⟨⟨rfl, by decide⟩, fun _ => ⟨hl, hZ⟩, by decide⟩, rfl⟩, by decide⟩⟩, by decide⟩
theorem opens_pr {H : Type} {enc : TypeId × Value -> H} {W : World} : zja enc Tryz.prog W 68 (List Int) 16 (fun l j => .int .u8 (za2 l j)) (fun l => zm7 l) :=
 (ybb (n := 16) (sz := 1) Tryz.underlying68 (by kernel_rfl) (yba Tryz.underlying5 (by kernel_rfl)) (by decide)).turn (fun l => l) (fun l h => ⟨h.1, fun x hx => by have := bounds_u8 (h.2 x hx); omega⟩) (fun l h j hj v r => by
   have e : avL (fun n (_ : Nat) => AV.int .u8 n) l (j / 1) (j % 1) = .int .u8 (za2 l j) := by
     rw [Nat.div_one, avL, za2, List.getD_eq_getElem?_getD, List.getElem?_eq_getElem (by rw [h.1]; omega : j < l.length)]; rfl
   rw [e] at r
   exact r)
theorem law_FingerTexts (l : List Int) (hl : zm7 l) (s : List UInt8) (hs : s.length <= maxLen) : za9 Tryz.prog 7 [.agg ((List.range 16).map fun j => .int .u8 (za2 l j)), .str s] (.bool true) := zwf l hl s hs
end Sy
end Go.Proofs.YthppjaoicibeiaaGreatDoor
namespace Go.Proofs.YthppjaoicibeiaaGreatDoor
namespace Sy
open Go
set_option linter.unusedVariables false
theorem zsw {P : Program} {w : World} {n : String} {d : DataW Unit} : ∀ {l : List (String × DataW Unit)} {ps : List MemPlace}, DataW.LaidVars P w l ps -> (n, d) ∈ l ->
   ∃ g t cs fuel p, P.globalNamed n = some g /\ (P.globals[g]?).map (·.type) = some t /\ w.var? P n = some cs /\ DataW.trod (fun _ => ()) P w 0 (fun _ => true) false fuel t cs.toList = some (d, p)
 | x :: r, ps, h, hm => by
   obtain ⟨n', d'⟩ := x
   obtain ⟨g, t, cs, fuel, p, q, h1, h2, h3, h4, h5, _⟩ := h
   rcases List.mem_cons.1 hm with e | hm
   · cases e
     exact ⟨g, t, cs, fuel, p, h1, h2, h3, h4⟩
   · exact zsw h5 hm
theorem laid_tab {P : Program} {w : World} {name : String} {k : IntKind} {zs : List Int} {l : List (String × DataW Unit)} (h : laidMet P l w) (hm : (name, Lib.tabData k zs) ∈ l) {g : Nat} {t e : TypeId} {n : Nat}
   (hg : P.globalNamed name = some g) (hty : (P.globals[g]?).map (·.type) = some t) (ht : P.underlying t = some (.array n e)) (he : P.underlying e = some (.int k)) (hce : P.cellsOf e = 1) (hct : P.cellsOf t = n) : Lib.TabIs P w name k zs := by
 obtain ⟨ps, hv, _⟩ := h
 obtain ⟨g', t', cs, fuel, p, hg', ht', hvar, hd⟩ := zsw hv hm
 obtain rfl := Option.some.inj (hg.symm.trans hg')
 obtain rfl := Option.some.inj (hty.symm.trans ht')
 unfold Lib.TabIs
 rw [hvar, <- Lib.cells_of_tab ht he hce hct hd]
theorem laid_ifc {P : Program} {w : World} {name nm : String} {d : DataW Unit} {l : List (String × DataW Unit)} (h : laidMet P l w) (hm : (name, .iface nm d) ∈ l) {g : Nat} {t : TypeId} {ms : Array (String × TypeId)}
   (hg : P.globalNamed name = some g) (hty : (P.globals[g]?).map (·.type) = some t) (ht : P.underlying t = some (.interface ms)) : ∃ te pe, w.var? P name = some #[.iface te pe] := by
 obtain ⟨ps, hv, _⟩ := h
 obtain ⟨g', t', cs, fuel, p, hg', ht', hvar, hd⟩ := zsw hv hm
 obtain rfl := Option.some.inj (hg.symm.trans hg')
 obtain rfl := Option.some.inj (hty.symm.trans ht')
 obtain ⟨f2, u, v, e, _, _⟩ := iface_of_trod ht hd
 refine ⟨u, v, ?_⟩
 rw [hvar]
 obtain ⟨l0⟩ := cs
 have e : l0 = [.iface u v] := e
 rw [e]
theorem max_is {w : World} (h : w.ShapedOpen Tryz.prog) (hm : ∀ g, Tryz.prog.globalNamed "internal/bytealg.MaxLen" = some g -> ∃ zero t, g < Tryz.prog.globals.size /\ ((begin Tryz.prog (fun _ _ => 0) default).world.heap[g]?).bind Obj.row? = some (zero, t) /\ zero.size = 1 /\ Tryz.prog.buildable t = true /\ Tryz.prog.cellTypes Tryz.prog.depth t = some [t] /\ Tryz.prog.underlying t = some (.int .i64)) : yer w := by
 intro g hg
 obtain ⟨zero, t, h1, h2, h3, h4, h5, h6⟩ := hm g hg
 exact Go.Proofs.cell_of_shapedOpen_int h h1 h2 h3 h4 h5 h6
theorem returns_and_shaped {H : Type} {enc : TypeId × Value -> H} {a : Assume} {C : Checked} {os : Os} {f : FuncId} {fn : Func} {s : ChangeSpec} {conds : List PathCond} {apart fresh handsOn again : Bool} {X : World -> Array Value -> Prop}
   (hX : ∀ (w w' : World) (args : Array Value), w.heap = w'.heap -> X w args -> X w' args)
   (own : ownKnob C.prog.godebug = none) (started : os.Started) (noInit : C.prog.inits.idxOf? f = none) (hfn : C.prog.funcs[f]? = some fn)
   (witness : ∃ (w : World) (tape : Tape) (i : Input), w.os = os /\ (w.forCall tape i).Shaped C.prog /\ i.vars = [] /\ Input.okWide C.prog (w.forCall tape i) .any w.heap.size f i /\
     ((s.pre enc C.prog fn conds apart (w.forCall tape i).memory i.args /\ X (w.forCall tape i).memory i.args) /\ sizedMet enc C.prog fn (OpenSpec.ofChange s) apart (w.forCall tape i).memory i.args) /\ a.holds C.prog (lone (Frame.enter C.prog f i.args .normal) [] (w.forCall tape i)))
   (contract : ∀ (W : World) (base : Nat) (args : Array Value) (ds gs : List (DataW H)) (before : List MemPlace),
     (∀ (j : Nat) t v, fn.params[j]? = some t -> args[j]? = some v -> Value.okWide C.prog W .any base t v) ->
     DataW.Whole enc C.prog fn.params.toList s.vars apart W args.toList ds gs before ->
     conds.all (PathCond.test C.prog ⟨fn.params.toList, ds, s.plain.varTypes C.prog, gs⟩) = true ->
     (DataW.weightsEach C.prog (fn.params.toList ++ s.plain.varTypes C.prog) (ds ++ gs)).all (· <= reachBytes) = true -> X W args -> W.ShapedOpen C.prog ->
     a.holds C.prog (lone (Frame.enter C.prog f args .normal) [] W) ->
     Calls C.prog f args W fun e W' => ∃ v, e = .returned v /\ s.post enc C.prog fn apart fresh handsOn again W args v W') :
   ReturnsInHanded a C os f .any (fun w args => (s.pre enc C.prog fn conds apart w args /\ X w args) /\ sizedMet enc C.prog fn (OpenSpec.ofChange s) apart w args) (s.post enc C.prog fn apart fresh handsOn again) := by
 refine returnsInHanded_of_calls own started noInit witness ?_
 intro w tape i _ hsh _ hok hpre hholds
 obtain ⟨_, _, _, fn', hfn', _, _, _, _, hval⟩ := hok
 have e : fn' = fn := Option.some.inj (hfn'.symm.trans hfn)
 subst e
 obtain ⟨⟨⟨ds, gs, before, hw, hc⟩, hx⟩, hz⟩ := hpre
 have hw' := DataW.Whole.of_heap (w' := w.forCall tape i) (by rfl) hw
 refine (contract (w.forCall tape i) w.heap.size i.args ds gs before hval hw' hc (hz.weights hw) (hX _ _ _ (by rfl) hx) hsh hholds).mono fun e W' ⟨v, he, hp⟩ => ?_
 subst he
 exact ChangeSpec.post_blind hp
end Sy
end Go.Proofs.YthppjaoicibeiaaGreatDoor
