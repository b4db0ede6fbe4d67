/- Part 20 of the proof: the texts IvM. -/
import Derived.Test.YtigipcbnfeoliaaGreatDoorRf7
import Derived.Test.YtigipcbnfeoliaaGreatDoorRf17
import Derived.Test.YtigipcbnfeoliaaGreatDoorRf3
set_option linter.all false
set_option maxHeartbeats 8000000
set_option maxRecDepth 20000
namespace Go.Proofs.YtigipcbnfeoliaaGreatDoor
open Go Go.RowKit
section
variable {G : World -> Prop}
theorem vX (hst : ay G) (hse : ∀ s : ByteArray, s.size <= 1048576 -> Ct Tryz.prog G 193 [.str s] (fun _ => .bool (cK s.data.toList)))
   (f lo lo2 : Nat) (cl : List aa) (cen : TV) (cs : List aC) (mn : Int) (hcl : cl.length <= 1048576) (hcs : cs.length <= 1048576 /\ ∀ y ∈ cs, aC.small 1048576 y) (o : List Int) (hinv : cT cs.length o) (k : Nat) (own : aC) (hk : cs[k]? = some own) (hsl : 0 <= own.slots /\ own.slots <= 30)
   (L : List Int) (hL : L = (gF o cs.length k).reverse) (x : ai) (hx : x.text.size <= 1048576) (hbf : iF cs k x) :
   Ct Tryz.prog G 250 [.cp f [.sl lo 3 (cl.map (aa.tw lo)), .sl lo 4 (cs.map (aC.tw lo)), cen, .int .i64 mn], .int .i64 (k : Int), .agg [.int .i64 x.op, .int .i64 x.a, .int .i64 x.b, .str x.text], .sl lo2 1 (aN L)] (fun _ => .bool (e7 cs cl.length o k own x)) := by
 obtain ⟨op, a, b, t⟩ := x
 dsimp only at hx |-
 refine aq Tryz.func250 rfl Tryz.ntmps250 rfl rfl fun w0 _ hG => ?_
 have hl1 := aa.len lo cl
 have hl2 := aC.len lo cs
 have hll := aj L
 have hLn : L.length <= 1048576 := by rw [hL, List.length_reverse]; exact Nat.le_trans (kO _ _ _) hcs.1
 have hkl : k < cs.length := (List.getElem?_eq_some_iff.1 hk).1
 have hrk : (cs.map (aC.tw lo))[k]? = some [.bool own.block, .int .i64 own.params, .int .i64 own.slots, .sl lo 4 (own.instrs.map (ai.tw lo))] := by rw [List.getElem?_map, hk]; rfl
 have hil := ai.len lo own.instrs
 have hin : own.instrs.length <= 1048576 := (hcs.2 own (List.mem_of_getElem? hk)).1
 repeat' (first | refine H_ 3 ?_ | refine aH ?_ | (refine ak ?_; intro ss bb) | refine ac ?_ | refine ad hG hst (xV _) ?_)
 refine ⟨dq ?_⟩
 generalize ss = s9; generalize bb = b9
 apply fx (X := Unit) [0, 1, 3, 6, 9] (fun _ => [(60, .bool (!decide (ez ⟨op, a, b, t⟩)))]) (fun _ => [(s9, b9, .box [.bool own.block, .int .i64 own.params, .int .i64 own.slots, .sl lo 4 (own.instrs.map (ai.tw lo))])]) (fun _ => True)
 case hk => (repeat (first | exact jp.nil | (apply jp.cons; rfl)))
 ·clear hrk hk hL hbf hinv hse hl1 hl2 hll hLn hin hil
  repeat' (first | refine W_ ?_ | refine ad hG hst (bg _ _ _) ?_ | refine g_ (fun hg => ?_) (fun hg => ?_))
  all_goals
    refine eb () trivial (.of _ (cD.envCons (jB rfl ?_) cD.envNil) od_ pk_)
    simp only [Bool.not_eq_true', Bool.not_eq_false', ne_eq, Decidable.not_not] at *
    first
      | (simp [ez, *]; done)
 intro _ _
 by_cases hh : ez ⟨op, a, b, t⟩
 case neg =>
   have hB : e7 cs cl.length o k own ⟨op, a, b, t⟩ = false := by unfold e7; rw [decide_eq_false hh]; rfl
   rw [hB, decide_eq_false hh, Bool.not_false]
   repeat' refine W_ ?_
   exact r1_
 have hB : e7 cs cl.length o k own ⟨op, a, b, t⟩ = cW cs cl.length o k own ⟨op, a, b, t⟩ := by unfold e7; rw [decide_eq_true hh]; rfl
 rw [hB, decide_eq_true hh, Bool.not_true]
 have hlabt : (!inR b 0 ((L.length : Int) - 1)) = false -> (0 <= b /\ b <= (L.length : Int) - 1) /\ ∃ (q v : Nat) (y : aC), (L.length : Int) - 1 - b = q /\ (aN L)[q]? = some [.int .i64 (v : Int)] /\ cs[v]? = some y /\ eS cs o k b = some y := fun h => by
   have h2 : 0 <= b /\ b <= (L.length : Int) - 1 := by simpa [inR] using h
   exact ⟨h2, x3 hinv hkl hL h2⟩
 have hlabf : (!inR b 0 ((L.length : Int) - 1)) = true -> vC cs o k ⟨op, a, b, t⟩ = false := fun h => by
   have h2 : ¬ (0 <= b /\ b <= (L.length : Int) - 1) := by
     intro h3
     rw [vl h3] at h; cases h
   unfold vC
   dsimp only
   rw [pe hinv hkl hL h2]
 unfold iF at hbf
 dsimp only at hbf
 clear hB hinv hL hk
 repeat' (first | ((with_reducible apply o_y); exact y_; rfl) | with_reducible refine iG (by kernel_rfl) (by kernel_rfl) ?_ | with_reducible refine lS ?_ | with_reducible refine iY ?_ | with_reducible refine iQ rfl ?_ | refine mb rfl rfl rfl rr_ ?_ | refine iO rfl rfl rfl rr_ rfl rfl rfl ?_ | refine f5 rfl rfl rfl rr_ rfl rfl ?_ | (refine rR rfl rfl rfl rr_ dd_ ?_) | (refine tF rfl rfl rfl rr_ dd_ ?_) | (refine ep rfl rfl rfl rr_ (fun hg => ?_) (fun hg => ?_)) | (refine dS rfl rfl rfl rr_ (fun hg => ?_) (fun hg => ?_)) | ((with_reducible apply d_y); exact y_; rfl) | refine ad hG hst (bg _ _ _) ?_ | refine ad hG hst (uC _ hx) ?_ | refine ad hG hst (hse _ hx) ?_ | refine ad hG hst (ib hst _ hx) ?_ | refine ae hG hst (bg _ _ _) ?_ | refine ae hG hst (hse _ hx) ?_ | with_reducible refine tj (id := 18) ?_ | with_reducible refine tj (id := 31) ?_  | with_reducible refine dc rfl ?_ | (with_reducible first | apply dq | apply cB | apply fO | apply dX | apply cR | apply dT | apply dW | apply fI | apply bB | apply (aq_block_miss rfl) | apply bC | apply bH | apply bz | apply db) | refine iM rfl rfl rfl rr_ ?_ | refine fB rfl rfl rfl rr_ rfl rfl rfl ?_ | refine et rfl rfl rfl rr_ rfl rfl ?_ | (refine ni rfl rfl rfl rr_ dd_ ?_) | (refine nT rfl rfl rfl rr_ dd_ ?_) | (refine dM rfl rfl rfl rr_ (fun hg => ?_) (fun hg => ?_)) | (refine dr rfl rfl rfl rr_ (fun hg => ?_) (fun hg => ?_)) | refine cw rfl rr_ ?_ | refine cx rfl rr_ ?_ | (refine bV rfl rr_ dd_ ?_) | (refine bW rfl rr_ dd_ ?_) | (refine eu rfl rr_ (fun hc => ?_) (fun hc => ?_)) | (refine df rfl rr_ (fun hc => ?_) (fun hc => ?_)))
 all_goals first
   | (refine aK x_ rfl (.tmp _ _ rfl) (fun _ => ?_)
      clear hlabt hrk hbf hl1 hl2 hll hil hcs hse hh
      refine aJ ?_
      first
        | (simp [cW, *]; done)
        | (have hv := hlabf (by assumption)
           clear hlabf
           subst_vars
           simp [cW, hv]; done))
   | (refine ⟨?_⟩
      have h15 : op = 15 := by assumption
      obtain ⟨ha, y, hy, hyb⟩ := hbf h15
      obtain ⟨c, rfl⟩ : ∃ c : Nat, a = c := ⟨a.toNat, by omega⟩
      rw [Int.toNat_natCast] at hy
      have hry : (cs.map (aC.tw lo))[c]? = some [.bool true, .int .i64 y.params, .int .i64 y.slots, .sl lo 4 (y.instrs.map (ai.tw lo))] := by rw [List.getElem?_map, hy, <- hyb]; rfl
      have cin := bg (G := G) (c : Int) 0 ((k - 1 : Nat) : Int)
      rw [vl (by omega)] at cin
      repeat' (first | refine V_ ?_ | refine ae hG hst (cin) ?_)
      refine aK x_ rfl (.tmp _ _ rfl) (fun _ => ?_)
      refine aJ ?_
      simp [cW, h15]; done)
   | (refine ⟨?_⟩
      obtain ⟨hb, q, v, y, hq, hrow, hy, hlev⟩ := hlabt (by assumption)
      obtain ⟨c, rfl⟩ : ∃ c : Nat, b = c := ⟨b.toNat, by omega⟩
      obtain rfl : q = L.length - 1 - c := by omega
      have hry : (cs.map (aC.tw lo))[v]? = some [.bool y.block, .int .i64 y.params, .int .i64 y.slots, .sl lo 4 (y.instrs.map (ai.tw lo))] := by rw [List.getElem?_map, hy]; rfl
      clear hlabt hlabf hbf hq
      repeat' (first | refine W_ ?_ | ((with_reducible apply wC (id := 18) 15); kernel_rfl; kernel_rfl; kernel_rfl; (repeat (first | exact Cut.zero _ | apply Cut.succ)); rfl; rfl; rfl; rfl; rfl; kernel_rfl; rfl) | ((with_reducible apply u_y); exact yu_; rfl) | (with_reducible refine acI ?_; intro ss bb) | refine ac ?_ | refine ad hG hst (bg _ _ _) ?_)
      all_goals first
        | (refine aK x_ rfl (.tmp _ _ rfl) (fun _ => ?_)
           refine aJ ?_
           clear hrk hl1 hl2 hll hil hcs hse hh
           subst_vars
           simp [cW, vC, hlev]; done))
end
end Go.Proofs.YtigipcbnfeoliaaGreatDoor
