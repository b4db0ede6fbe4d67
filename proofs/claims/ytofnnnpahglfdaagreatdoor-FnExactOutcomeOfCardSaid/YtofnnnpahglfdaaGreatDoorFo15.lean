/- Part 15 of the proof: the texts IvM. -/
import Derived.Test.YtofnnnpahglfdaaGreatDoorFo3
import Derived.Test.YtofnnnpahglfdaaGreatDoorFo12
set_option linter.all false
set_option maxHeartbeats 8000000
set_option maxRecDepth 20000
namespace Go.Proofs.YtofnnnpahglfdaaGreatDoor
open Go Go.RowKit
section
variable {G : World -> Prop}
theorem vQ (hst : aB G) (hse : ∀ s : ByteArray, s.size <= 1048576 -> Ct Tryz.prog G 182 [.str s] (fun _ => .bool (bY s.data.toList)))
   (f lo lo2 : Nat) (cl : List aa) (cen : TV) (cs : List aA) (mn : Int) (hcl : cl.length <= 1048576) (hcs : cs.length <= 1048576 /\ ∀ y ∈ cs, aA.small 1048576 y) (o : List Int) (hinv : cE cs.length o) (k : Nat) (own : aA) (hk : cs[k]? = some own) (hsl : 0 <= own.slots /\ own.slots <= 30)
   (L : List Int) (hL : L = (f5 o cs.length k).reverse) (x : ah) (hx : x.text.size <= 1048576) (hbf : iH cs k x) :
   Ct Tryz.prog G 243 [.cp f [.sl lo 3 (cl.map (aa.tw lo)), .sl lo 4 (cs.map (aA.tw lo)), cen, .int .i64 mn], .int .i64 (k : Int), .agg [.int .i64 x.op, .int .i64 x.a, .int .i64 x.b, .str x.text], .sl lo2 1 (aS L)] (fun _ => .bool (eQ cs cl.length o k own x)) := by
 obtain ⟨op, a, b, t⟩ := x
 dsimp only at hx |-
 refine am Tryz.func243 rfl Tryz.ntmps243 rfl rfl fun w0 _ hG => ?_
 have hl1 := aa.len lo cl
 have hl2 := aA.len lo cs
 have hll := ao L
 have hLn : L.length <= 1048576 := by rw [hL, List.length_reverse]; exact Nat.le_trans (ka _ _ _) hcs.1
 have hkl : k < cs.length := (List.getElem?_eq_some_iff.1 hk).1
 have hrk : (cs.map (aA.tw lo))[k]? = some [.bool own.block, .int .i64 own.params, .int .i64 own.slots, .sl lo 4 (own.instrs.map (ah.tw lo))] := by rw [List.getElem?_map, hk]; rfl
 have hil := ah.len lo own.instrs
 have hin : own.instrs.length <= 1048576 := (hcs.2 own (List.mem_of_getElem? hk)).1
 repeat' (first | refine H_ 3 ?_ | refine aD ?_ | (refine aj ?_; intro ss bb) | refine ac ?_ | refine ab hG hst (zh _) ?_)
 refine ⟨dp ?_⟩
 generalize ss = s9; generalize bb = b9
 apply fh (X := Unit) [0, 1, 3, 6, 9] (fun _ => [(60, .bool (!decide (ea ⟨op, a, b, t⟩)))]) (fun _ => [(s9, b9, .box [.bool own.block, .int .i64 own.params, .int .i64 own.slots, .sl lo 4 (own.instrs.map (ah.tw lo))])]) (fun _ => True)
 case hk => (repeat (first | exact jq.nil | (apply jq.cons; rfl)))
 ·clear hrk hk hL hbf hinv hse hl1 hl2 hll hLn hin hil
  repeat' (first | refine W_ ?_ | refine ab hG hst (a7 _ _ _) ?_ | refine g_ (fun hg => ?_) (fun hg => ?_))
  all_goals
    refine dV () trivial (.of _ (dg.envCons (j2 rfl ?_) dg.envNil) od_ pk_)
    simp only [Bool.not_eq_true', Bool.not_eq_false', ne_eq, Decidable.not_not] at *
    first
      | (simp [ea, *]; done)
 intro _ _
 by_cases hh : ea ⟨op, a, b, t⟩
 case neg =>
   have hB : eQ cs cl.length o k own ⟨op, a, b, t⟩ = false := by unfold eQ; rw [decide_eq_false hh]; rfl
   rw [hB, decide_eq_false hh, Bool.not_false]
   repeat' refine W_ ?_
   exact r1_
 have hB : eQ cs cl.length o k own ⟨op, a, b, t⟩ = cJ cs cl.length o k own ⟨op, a, b, t⟩ := by unfold eQ; rw [decide_eq_true hh]; rfl
 rw [hB, decide_eq_true hh, Bool.not_true]
 have hlabt : (!inR b 0 ((L.length : Int) - 1)) = false -> (0 <= b /\ b <= (L.length : Int) - 1) /\ ∃ (q v : Nat) (y : aA), (L.length : Int) - 1 - b = q /\ (aS L)[q]? = some [.int .i64 (v : Int)] /\ cs[v]? = some y /\ ez cs o k b = some y := fun h => by
   have h2 : 0 <= b /\ b <= (L.length : Int) - 1 := by simpa [inR] using h
   exact ⟨h2, yN hinv hkl hL h2⟩
 have hlabf : (!inR b 0 ((L.length : Int) - 1)) = true -> ww cs o k ⟨op, a, b, t⟩ = false := fun h => by
   have h2 : ¬ (0 <= b /\ b <= (L.length : Int) - 1) := by
     intro h3
     rw [vE h3] at h; cases h
   unfold ww
   dsimp only
   rw [oT hinv hkl hL h2]
 unfold iH at hbf
 dsimp only at hbf
 clear hB hinv hL hk
 repeat' (first | ((with_reducible apply o_y); exact y_; rfl) | with_reducible refine fQ (by kernel_rfl) (by kernel_rfl) ?_ | with_reducible refine jz ?_ | with_reducible refine fV ?_ | with_reducible refine fS rfl ?_ | refine jB rfl rfl rfl rr_ ?_ | refine fU rfl rfl rfl rr_ rfl rfl rfl ?_ | refine eG rfl rfl rfl rr_ rfl rfl ?_ | (refine o8 rfl rfl rfl rr_ dd_ ?_) | (refine oU rfl rfl rfl rr_ dd_ ?_) | (refine dh rfl rfl rfl rr_ (fun hg => ?_) (fun hg => ?_)) | (refine cN rfl rfl rfl rr_ (fun hg => ?_) (fun hg => ?_)) | ((with_reducible apply d_y); exact y_; rfl) | refine ab hG hst (a7 _ _ _) ?_ | refine ab hG hst (vS _ hx) ?_ | refine ab hG hst (hse _ hx) ?_ | refine ab hG hst (gq hst _ hx) ?_ | refine ae hG hst (a7 _ _ _) ?_ | refine ae hG hst (hse _ hx) ?_ | with_reducible refine t7 (id := 18) ?_ | with_reducible refine t7 (id := 31) ?_  | with_reducible refine cR rfl ?_ | (with_reducible first | apply dp | apply cg | apply fB | apply dJ | apply cC | apply dS | apply dL | apply fl | apply bx | apply (ba rfl) | apply bu | apply bF | apply bv | apply cQ) | refine iJ rfl rfl rfl rr_ ?_ | refine fq rfl rfl rfl rr_ rfl rfl rfl ?_ | refine d7 rfl rfl rfl rr_ rfl rfl ?_ | (refine nL rfl rfl rfl rr_ dd_ ?_) | (refine ox rfl rfl rfl rr_ dd_ ?_) | (refine dx rfl rfl rfl rr_ (fun hg => ?_) (fun hg => ?_)) | (refine dl rfl rfl rfl rr_ (fun hg => ?_) (fun hg => ?_)) | refine ce rfl rr_ ?_ | refine cf rfl rr_ ?_ | (refine bN rfl rr_ dd_ ?_) | (refine bO rfl rr_ dd_ ?_) | (refine dZ rfl rr_ (fun hc => ?_) (fun hc => ?_)) | (refine cW rfl rr_ (fun hc => ?_) (fun hc => ?_)))
 all_goals first
   | (refine aE x_ rfl (.tmp _ _ rfl) (fun _ => ?_)
      clear hlabt hrk hbf hl1 hl2 hll hil hcs hse hh
      refine aK ?_
      first
        | (simp [cJ, *]; done)
        | (have hv := hlabf (by assumption)
           clear hlabf
           subst_vars
           simp [cJ, hv]; done))
   | (refine ⟨?_⟩
      have h15 : op = 15 := by assumption
      obtain ⟨ha, y, hy, hyb⟩ := hbf h15
      obtain ⟨c, rfl⟩ : ∃ c : Nat, a = c := ⟨a.toNat, by omega⟩
      rw [Int.toNat_natCast] at hy
      have hry : (cs.map (aA.tw lo))[c]? = some [.bool true, .int .i64 y.params, .int .i64 y.slots, .sl lo 4 (y.instrs.map (ah.tw lo))] := by rw [List.getElem?_map, hy, <- hyb]; rfl
      have cin := a7 (G := G) (c : Int) 0 ((k - 1 : Nat) : Int)
      rw [vE (by omega)] at cin
      repeat' (first | refine V_ ?_ | refine ae hG hst (cin) ?_)
      refine aE x_ rfl (.tmp _ _ rfl) (fun _ => ?_)
      refine aK ?_
      simp [cJ, h15]; done)
   | (refine ⟨?_⟩
      obtain ⟨hb, q, v, y, hq, hrow, hy, hlev⟩ := hlabt (by assumption)
      obtain ⟨c, rfl⟩ : ∃ c : Nat, b = c := ⟨b.toNat, by omega⟩
      obtain rfl : q = L.length - 1 - c := by omega
      have hry : (cs.map (aA.tw lo))[v]? = some [.bool y.block, .int .i64 y.params, .int .i64 y.slots, .sl lo 4 (y.instrs.map (ah.tw lo))] := by rw [List.getElem?_map, hy]; rfl
      clear hlabt hlabf hbf hq
      repeat' (first | refine W_ ?_ | ((with_reducible apply i7 (id := 18) 15); kernel_rfl; kernel_rfl; kernel_rfl; (repeat (first | exact Cut.zero _ | apply Cut.succ)); rfl; rfl; rfl; rfl; rfl; kernel_rfl; rfl) | ((with_reducible apply u_y); exact yu_; rfl) | (with_reducible refine qk ?_; intro ss bb) | refine ac ?_ | refine ab hG hst (a7 _ _ _) ?_)
      all_goals first
        | (refine aE x_ rfl (.tmp _ _ rfl) (fun _ => ?_)
           refine aK ?_
           clear hrk hl1 hl2 hll hil hcs hse hh
           subst_vars
           simp [cJ, ww, hlev]; done))
end
end Go.Proofs.YtofnnnpahglfdaaGreatDoor
