/- Part 9 of the proof: the texts Row, TvA. -/
import Derived.Test.YtigipcbnfeoliaaGreatDoorRows
import Derived.Test.YtigipcbnfeoliaaGreatDoorRf4
import Derived.Test.YtigipcbnfeoliaaGreatDoorRf5
import Derived.Shelf.Vars
import Derived.Lib.LaidU8
import Derived.Lib.LaidTab
import Derived.Lay
import Derived.MakeChecks
import Derived.ProofKit
import Derived.OpenShut
import Derived.ShutString
import Derived.ChangeOld
import Derived.Handed
import Derived.Test.YtigipcbnfeoliaaGreatDoorRf3
set_option linter.all false
namespace Go.Proofs.YtigipcbnfeoliaaGreatDoor
open Go Go.RowKit
theorem jo {H : Type} {enc : TypeId × Value -> H} {a : Assume} {C : Checked} {os : Os} {f : FuncId} {fn : Func} {s : ChangeSpec} {conds : List PathCond} {apart fresh handsOn again : Bool} {X : World -> Array Value -> Prop}
   (hX : ∀ (w w' : World) (args : Array Value), w.heap = w'.heap -> X w args -> X w' args)
   (own : ownKnob C.prog.godebug = none) (started : os.Started) (noInit : C.prog.inits.idxOf? f = none) (hfn : C.prog.funcs[f]? = some fn)
   (witness : ∃ (w : World) (tape : Tape) (i : Input), w.os = os /\ (w.forCall tape i).Shaped C.prog /\ i.vars = [] /\ Input.okWide C.prog (w.forCall tape i) .any w.heap.size f i /\
     ((s.pre enc C.prog fn conds apart (w.forCall tape i).memory i.args /\ X (w.forCall tape i).memory i.args) /\ sizedMet enc C.prog fn (OpenSpec.ofChange s) apart (w.forCall tape i).memory i.args) /\ a.holds C.prog (lone (Frame.enter C.prog f i.args .normal) [] (w.forCall tape i)))
   (contract : ∀ (W : World) (base : Nat) (args : Array Value) (ds gs : List (DataW H)) (before : List MemPlace),
     (∀ (j : Nat) t v, fn.params[j]? = some t -> args[j]? = some v -> Value.okWide C.prog W .any base t v) ->
     DataW.Whole enc C.prog fn.params.toList s.vars apart W args.toList ds gs before ->
     conds.all (PathCond.test C.prog ⟨fn.params.toList, ds, s.plain.varTypes C.prog, gs⟩) = true ->
     (DataW.weightsEach C.prog (fn.params.toList ++ s.plain.varTypes C.prog) (ds ++ gs)).all (· <= reachBytes) = true -> X W args -> W.ShapedOpen C.prog ->
     a.holds C.prog (lone (Frame.enter C.prog f args .normal) [] W) ->
     Calls C.prog f args W fun e W' => ∃ v, e = .returned v /\ s.post enc C.prog fn apart fresh handsOn again W args v W') :
   ReturnsInHanded a C os f .any (fun w args => (s.pre enc C.prog fn conds apart w args /\ X w args) /\ sizedMet enc C.prog fn (OpenSpec.ofChange s) apart w args) (s.post enc C.prog fn apart fresh handsOn again) := by
 refine returnsInHanded_of_calls own started noInit witness ?_
 intro w tape i _ hsh _ hok hpre hholds
 obtain ⟨_, _, _, fn', hfn', _, _, _, _, hval⟩ := hok
 have e : fn' = fn := Option.some.inj (hfn'.symm.trans hfn)
 subst e
 obtain ⟨⟨⟨ds, gs, before, hw, hc⟩, hx⟩, hz⟩ := hpre
 have hw' := DataW.Whole.of_heap (w' := w.forCall tape i) (by rfl) hw
 refine (contract (w.forCall tape i) w.heap.size i.args ds gs before hval hw' hc (hz.weights hw) (hX _ _ _ (by rfl) hx) hsh hholds).mono fun e W' ⟨v, he, hp⟩ => ?_
 subst he
 exact ChangeSpec.post_blind hp
theorem adY {W : World} (h : W.ShapedOpen Tryz.prog) : sS W :=
 cell_of_shapedOpen_int (zero := #[.int .i64 0]) h (of_decide_eq_true (by kernel_rfl)) (by kernel_rfl) (by kernel_rfl) (by kernel_rfl) (by kernel_rfl) Tryz.underlying3
mutual
def PT.tvs : PT -> List TV
 | .int k n => [.int k n]
 | .bool b => [.bool b]
 | .str s => [.str s]
 | .agg l => PT.tvsL l
 | .sl _ _ m l => [.sl 0 m (PT.rowsL l)]
def PT.tvsL : List PT -> List TV
 | [] => []
 | t :: r => PT.tvs t ++ PT.tvsL r
def PT.rowsL : List PT -> List (List TV)
 | [] => []
 | t :: r => PT.tvs t :: PT.rowsL r
end
theorem PT.rowsL_map (l : List PT) : PT.rowsL l = l.map PT.tvs := by
 induction l with
 | nil => rfl
 | cons t r ih => simp [PT.rowsL, ih]
theorem PT.rows_flat (l : List PT) : (PT.rowsL l).flatten = PT.tvsL l := by
 induction l with
 | nil => rfl
 | cons t r ih => simp [PT.rowsL, PT.tvsL, ih]
def ab3 (w : World) (ts : List TV) (vs : List Value) : Prop := ts.length = vs.length /\ (∀ t ∈ ts, t.isCell = true) /\ ∀ (i : Nat) (t : TV) (v : Value), ts[i]? = some t -> vs[i]? = some v -> Rep w [] t v
theorem ab3.append {w : World} {a b : List TV} {x y : List Value} (h : ab3 w a x) (k : ab3 w b y) : ab3 w (a ++ b) (x ++ y) := by
 refine ⟨by simp [h.1, k.1], fun t ht => ?_, fun i t v ht hv => ?_⟩
 ·rcases List.mem_append.1 ht with ht | ht
  ·exact h.2.1 t ht
  ·exact k.2.1 t ht
 ·by_cases hi : i < a.length
  ·rw [List.getElem?_append_left hi] at ht
   rw [List.getElem?_append_left (by rw [<- h.1]; exact hi)] at hv
   exact h.2.2 i t v ht hv
  ·rw [List.getElem?_append_right (by omega)] at ht
   rw [List.getElem?_append_right (by rw [<- h.1]; omega)] at hv
   rw [<- h.1] at hv
   exact k.2.2 _ t v ht hv
theorem ab3.one {w : World} {t : TV} {v : Value} (h : Rep w [] t v) (hc : t.isCell = true) : ab3 w [t] [v] := ⟨rfl, by simpa using hc, fun i u x hu hx => by
 cases i with
 | zero => simp at hu hx; subst hu; subst hx; exact h
 | succ i => simp at hu⟩
mutual
theorem adh (w : World) (S : Nat -> Prop) : ∀ t : PT, gG w S t -> ab3 w t.tvs t.cells
 | .int k n, _ => .one (.int k n) rfl
 | .bool b, _ => .one (.bool b) rfl
 | .str s, _ => .one (.str s) rfl
 | .agg l, h => by
   simp only [PT.tvs, PT.cells]
   simp only [gG] at h
   exact aan w S l h
 | .sl A c m l, h => by
   simp only [PT.tvs, PT.cells]
   simp only [gG] at h
   obtain ⟨h1, h2, h3, h4, h5⟩ := h
   have h6 := aan w S l h5
   have hlen : (PT.rowsL l).length = l.length := by rw [PT.rowsL_map]; simp
   refine .one ?_ rfl
   have key : ∀ j, ∃ u, ∀ t, (PT.tvsL l)[j]? = some t -> ∃ b o, A = some ⟨b, o, none⟩ /\ w.cell? ⟨b, o + j, none⟩ = some u /\ Rep w [] t u := fun j => by
     cases hj : (PT.cellsL l)[j]? with
     | none =>
       refine ⟨undef, fun t ht => ?_⟩
       have : j < (PT.tvsL l).length := (List.getElem?_eq_some_iff.1 ht).1
       rw [h6.1] at this
       rw [List.getElem?_eq_getElem this] at hj; cases hj
     | some u =>
       refine ⟨u, fun t ht => ?_⟩
       obtain ⟨b, o, e1, _, e2⟩ := h3 j u hj
       exact ⟨b, o, e1, e2, h6.2.2 j t u ht hj⟩
   have hr := Rep.sl (w := w) (objs := []) 0 m (PT.rowsL l) A c (by omega) h2 (fun r hr => by
       rw [PT.rowsL_map] at hr
       obtain ⟨t, ht, rfl⟩ := List.mem_map.1 hr
       rw [<- h4 t ht]
       exact (tn w S l h5 t ht).1) (fun t ht => by rw [PT.rows_flat] at ht; exact h6.2.1 t ht) (fun j => Classical.choose (key j))
     (fun j t hj => by
       rw [PT.rows_flat] at hj
       obtain ⟨b, o, e1, e2, _⟩ := Classical.choose_spec (key j) t hj
       exact ⟨b, o, e1, wU b, e2⟩)
     (fun j t hj => by
       rw [PT.rows_flat] at hj
       obtain ⟨b, o, _, _, e3⟩ := Classical.choose_spec (key j) t hj
       exact e3)
   rw [hlen] at hr
   exact hr
theorem aan (w : World) (S : Nat -> Prop) : ∀ l : List PT, dY w S l -> ab3 w (PT.tvsL l) (PT.cellsL l)
 | [], _ => ⟨rfl, by simp [PT.tvsL], by simp [PT.tvsL]⟩
 | t :: r, h => by
   simp only [PT.tvsL, PT.cellsL]
   simp only [dY] at h
   exact (adh w S t h.1).append (aan w S r h.2)
theorem tn (w : World) (S : Nat -> Prop) : ∀ l : List PT, dY w S l -> ∀ t ∈ l, ab3 w t.tvs t.cells
 | [], _, t, ht => by simp at ht
 | x :: r, h, t, ht => by
   simp only [dY] at h
   rcases List.mem_cons.1 ht with e | ht
   ·rw [e]; exact adh w S x h.1
   ·exact tn w S r h.2 t ht
end
end Go.Proofs.YtigipcbnfeoliaaGreatDoor
