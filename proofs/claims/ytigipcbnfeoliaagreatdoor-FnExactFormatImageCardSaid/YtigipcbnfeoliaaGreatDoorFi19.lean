/- Part 19 of the proof: the texts IvM. -/
import Derived.Test.YtigipcbnfeoliaaGreatDoorFi3
import Derived.Test.YtigipcbnfeoliaaGreatDoorFi15
set_option linter.all false
set_option maxHeartbeats 8000000
set_option maxRecDepth 20000
namespace Go.Proofs.YtigipcbnfeoliaaGreatDoor
open Go Go.RowKit
section
variable {G : World -> Prop}
theorem vH (hst : aC G) (hse : ∀ s : ByteArray, s.size <= 1048576 -> Ct Tryz.prog G 193 [.str s] (fun _ => .bool (cy s.data.toList)))
   (f lo lo2 : Nat) (cl : List aa) (cen : TV) (cs : List aw) (mn : Int) (hcl : cl.length <= 1048576) (hcs : cs.length <= 1048576 /\ ∀ y ∈ cs, aw.small 1048576 y) (o : List Int) (hinv : cL cs.length o) (k : Nat) (own : aw) (hk : cs[k]? = some own) (hsl : 0 <= own.slots /\ own.slots <= 30)
   (L : List Int) (hL : L = (gG o cs.length k).reverse) (x : ag) (hx : x.text.size <= 1048576) (hbf : jf cs k x) :
   Ct Tryz.prog G 250 [.cp f [.sl lo 3 (cl.map (aa.tw lo)), .sl lo 4 (cs.map (aw.tw lo)), cen, .int .i64 mn], .int .i64 (k : Int), .agg [.int .i64 x.op, .int .i64 x.a, .int .i64 x.b, .str x.text], .sl lo2 1 (aR L)] (fun _ => .bool (fh cs cl.length o k own x)) := by
 obtain ⟨op, a, b, t⟩ := x
 dsimp only at hx |-
 refine aq Tryz.func250 rfl Tryz.ntmps250 rfl rfl fun w0 _ hG => ?_
 have hl1 := aa.len lo cl
 have hl2 := aw.len lo cs
 have hll := ar L
 have hLn : L.length <= 1048576 := by rw [hL, List.length_reverse]; exact Nat.le_trans (kU _ _ _) hcs.1
 have hkl : k < cs.length := (List.getElem?_eq_some_iff.1 hk).1
 have hrk : (cs.map (aw.tw lo))[k]? = some [.bool own.block, .int .i64 own.params, .int .i64 own.slots, .sl lo 4 (own.instrs.map (ag.tw lo))] := by rw [List.getElem?_map, hk]; rfl
 have hil := ag.len lo own.instrs
 have hin : own.instrs.length <= 1048576 := (hcs.2 own (List.mem_of_getElem? hk)).1
 repeat' (first | refine H_ 3 ?_ | refine aJ ?_ | (refine ak ?_; intro ss bb) | refine ae ?_ | refine ac hG hst (qP _) ?_)
 refine ⟨dv ?_⟩
 generalize ss = s9; generalize bb = b9
 apply fK (X := Unit) [0, 1, 3, 6, 9] (fun _ => [(60, .bool (!decide (ew ⟨op, a, b, t⟩)))]) (fun _ => [(s9, b9, .box [.bool own.block, .int .i64 own.params, .int .i64 own.slots, .sl lo 4 (own.instrs.map (ag.tw lo))])]) (fun _ => True)
 case hk => (repeat (first | exact jB.nil | (apply jB.cons; rfl)))
 ·clear hrk hk hL hbf hinv hse hl1 hl2 hll hLn hin hil
  repeat' (first | refine W_ ?_ | refine ac hG hst (bm _ _ _) ?_ | refine g_ (fun hg => ?_) (fun hg => ?_))
  all_goals
    refine ee () trivial (.of _ (bX.envCons (jZ rfl ?_) bX.envNil) od_ pk_)
    simp only [Bool.not_eq_true', Bool.not_eq_false', ne_eq, Decidable.not_not] at *
    first
      | (simp [ew, *]; done)
 intro _ _
 by_cases hh : ew ⟨op, a, b, t⟩
 case neg =>
   have hB : fh cs cl.length o k own ⟨op, a, b, t⟩ = false := by unfold fh; rw [decide_eq_false hh]; rfl
   rw [hB, decide_eq_false hh, Bool.not_false]
   repeat' refine W_ ?_
   exact r1_
 have hB : fh cs cl.length o k own ⟨op, a, b, t⟩ = cM cs cl.length o k own ⟨op, a, b, t⟩ := by unfold fh; rw [decide_eq_true hh]; rfl
 rw [hB, decide_eq_true hh, Bool.not_true]
 have hlabt : (!inR b 0 ((L.length : Int) - 1)) = false -> (0 <= b /\ b <= (L.length : Int) - 1) /\ ∃ (q v : Nat) (y : aw), (L.length : Int) - 1 - b = q /\ (aR L)[q]? = some [.int .i64 (v : Int)] /\ cs[v]? = some y /\ eN cs o k b = some y := fun h => by
   have h2 : 0 <= b /\ b <= (L.length : Int) - 1 := by simpa [inR] using h
   exact ⟨h2, y0 hinv hkl hL h2⟩
 have hlabf : (!inR b 0 ((L.length : Int) - 1)) = true -> vT cs o k ⟨op, a, b, t⟩ = false := fun h => by
   have h2 : ¬ (0 <= b /\ b <= (L.length : Int) - 1) := by
     intro h3
     rw [ti h3] at h; cases h
   unfold vT
   dsimp only
   rw [pD hinv hkl hL h2]
 unfold jf at hbf
 dsimp only at hbf
 clear hB hinv hL hk
 repeat' (first | ((with_reducible apply o_y); exact y_; rfl) | with_reducible refine dV (by kernel_rfl) (by kernel_rfl) ?_ | with_reducible refine fO ?_ | with_reducible refine d7 ?_ | with_reducible refine dW rfl ?_ | refine fT rfl rfl rfl rr_ ?_ | refine dX rfl rfl rfl rr_ rfl rfl rfl ?_ | refine cT rfl rfl rfl rr_ rfl rfl ?_ | (refine jX rfl rfl rfl rr_ dd_ ?_) | (refine j2 rfl rfl rfl rr_ dd_ ?_) | (refine ce rfl rfl rfl rr_ (fun hg => ?_) (fun hg => ?_)) | (refine bR rfl rfl rfl rr_ (fun hg => ?_) (fun hg => ?_)) | ((with_reducible apply d_y); exact y_; rfl) | refine ac hG hst (bm _ _ _) ?_ | refine ac hG hst (vc _ hx) ?_ | refine ac hG hst (hse _ hx) ?_ | refine ac hG hst (gU hst _ hx) ?_ | refine ad hG hst (bm _ _ _) ?_ | refine ad hG hst (hse _ hx) ?_ | with_reducible refine tJ (id := 18) ?_ | with_reducible refine tJ (id := 31) ?_  | with_reducible refine cW rfl ?_ | (with_reducible first | apply dv | apply cn | apply fR | apply dU | apply cI | apply dZ | apply dY | apply fW | apply bD | apply (bp rfl) | apply bC | apply bK | apply bA | apply da) | refine iO rfl rfl rfl rr_ ?_ | refine fY rfl rfl rfl rr_ rfl rfl rfl ?_ | refine et rfl rfl rfl rr_ rfl rfl ?_ | (refine oX rfl rfl rfl rr_ dd_ ?_) | (refine oE rfl rfl rfl rr_ dd_ ?_) | (refine dN rfl rfl rfl rr_ (fun hg => ?_) (fun hg => ?_)) | (refine dp rfl rfl rfl rr_ (fun hg => ?_) (fun hg => ?_)) | refine cr rfl rr_ ?_ | refine cm rfl rr_ ?_ | (refine bV rfl rr_ dd_ ?_) | (refine bU rfl rr_ dd_ ?_) | (refine eh rfl rr_ (fun hc => ?_) (fun hc => ?_)) | (refine df rfl rr_ (fun hc => ?_) (fun hc => ?_)))
 all_goals first
   | (refine aD x_ rfl (.tmp _ _ rfl) (fun _ => ?_)
      clear hlabt hrk hbf hl1 hl2 hll hil hcs hse hh
      refine aI ?_
      first
        | (simp [cM, *]; done)
        | (have hv := hlabf (by assumption)
           clear hlabf
           subst_vars
           simp [cM, hv]; done))
   | (refine ⟨?_⟩
      have h15 : op = 15 := by assumption
      obtain ⟨ha, y, hy, hyb⟩ := hbf h15
      obtain ⟨c, rfl⟩ : ∃ c : Nat, a = c := ⟨a.toNat, by omega⟩
      rw [Int.toNat_natCast] at hy
      have hry : (cs.map (aw.tw lo))[c]? = some [.bool true, .int .i64 y.params, .int .i64 y.slots, .sl lo 4 (y.instrs.map (ag.tw lo))] := by rw [List.getElem?_map, hy, <- hyb]; rfl
      have cin := bm (G := G) (c : Int) 0 ((k - 1 : Nat) : Int)
      rw [ti (by omega)] at cin
      repeat' (first | refine V_ ?_ | refine ad hG hst (cin) ?_)
      refine aD x_ rfl (.tmp _ _ rfl) (fun _ => ?_)
      refine aI ?_
      simp [cM, h15]; done)
   | (refine ⟨?_⟩
      obtain ⟨hb, q, v, y, hq, hrow, hy, hlev⟩ := hlabt (by assumption)
      obtain ⟨c, rfl⟩ : ∃ c : Nat, b = c := ⟨b.toNat, by omega⟩
      obtain rfl : q = L.length - 1 - c := by omega
      have hry : (cs.map (aw.tw lo))[v]? = some [.bool y.block, .int .i64 y.params, .int .i64 y.slots, .sl lo 4 (y.instrs.map (ag.tw lo))] := by rw [List.getElem?_map, hy]; rfl
      clear hlabt hlabf hbf hq
      repeat' (first | refine W_ ?_ | ((with_reducible apply wH (id := 18) 15); kernel_rfl; kernel_rfl; kernel_rfl; (repeat (first | exact Cut.zero _ | apply Cut.succ)); rfl; rfl; rfl; rfl; rfl; kernel_rfl; rfl) | ((with_reducible apply u_y); exact yu_; rfl) | (with_reducible refine ac3 ?_; intro ss bb) | refine ae ?_ | refine ac hG hst (bm _ _ _) ?_)
      all_goals first
        | (refine aD x_ rfl (.tmp _ _ rfl) (fun _ => ?_)
           refine aI ?_
           clear hrk hl1 hl2 hll hil hcs hse hh
           subst_vars
           simp [cM, vT, hlev]; done))
end
end Go.Proofs.YtigipcbnfeoliaaGreatDoor
