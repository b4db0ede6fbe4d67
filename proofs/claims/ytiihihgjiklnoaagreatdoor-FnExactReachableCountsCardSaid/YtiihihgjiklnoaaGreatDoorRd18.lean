/- Part 18 of the proof. -/
import Derived.Test.YtiihihgjiklnoaaGreatDoorRd3
import Derived.Test.YtiihihgjiklnoaaGreatDoorRd15
set_option maxHeartbeats 8000000
set_option maxRecDepth 20000
namespace Go.Proofs.YtiihihgjiklnoaaGreatDoor
open Go Go.RowKit
section
variable {G : World -> Prop}
theorem q8 (hst : ay G) (hse : ∀ s : ByteArray, s.size <= 1048576 -> Ct Tryz.prog G 203 [.str s] (fun _ => .bool (bY s.data.toList)))
   (f lo lo2 : Nat) (cl : List aa) (cen : TV) (cs : List au) (mn : Int) (hcl : cl.length <= 1048576) (hcs : cs.length <= 1048576 /\ ∀ y ∈ cs, au.small 1048576 y) (o : List Int) (hinv : ch cs.length o) (k : Nat) (own : au) (hk : cs[k]? = some own) (hsl : 0 <= own.slots /\ own.slots <= 30)
   (L : List Int) (hL : L = (ff o cs.length k).reverse) (x : ai) (hx : x.text.size <= 1048576) (hbf : f8 cs k x) :
   Ct Tryz.prog G 205 [.cp f [.sl lo 3 (cl.map (aa.tw lo)), .sl lo 4 (cs.map (au.tw lo)), cen, .int .i64 mn], .int .i64 (k : Int), .agg [.int .i64 x.op, .int .i64 x.a, .int .i64 x.b, .str x.text], .sl lo2 1 (aM L)] (fun _ => .bool (dZ cs cl.length o k own x)) := by
 obtain ⟨op, a, b, t⟩ := x
 dsimp only at hx |-
 refine ak Tryz.func205 rfl Tryz.ntmps205 rfl rfl fun w0 _ hG => ?_
 have hl1 := aa.len lo cl
 have hl2 := au.len lo cs
 have hll := ap L
 have hLn : L.length <= 1048576 := by rw [hL, List.length_reverse]; exact Nat.le_trans (iL _ _ _) hcs.1
 have hkl : k < cs.length := (List.getElem?_eq_some_iff.1 hk).1
 have hrk : (cs.map (au.tw lo))[k]? = some [.bool own.block, .int .i64 own.params, .int .i64 own.slots, .sl lo 4 (own.instrs.map (ai.tw lo))] := by rw [List.getElem?_map, hk]; rfl
 have hil := ai.len lo own.instrs
 have hin : own.instrs.length <= 1048576 := (hcs.2 own (List.mem_of_getElem? hk)).1
 repeat' (first | refine H_ 3 ?_ | refine aF ?_ | (refine aj ?_; intro ss bb) | refine ad ?_ | refine ac hG hst (um _) ?_)
 refine ⟨ck ?_⟩
 generalize ss = s9; generalize bb = b9
 apply ez (X := Unit) [0, 1, 3, 6, 9] (fun _ => [(60, .bool (!decide (du ⟨op, a, b, t⟩)))]) (fun _ => [(s9, b9, .box [.bool own.block, .int .i64 own.params, .int .i64 own.slots, .sl lo 4 (own.instrs.map (ai.tw lo))])]) (fun _ => True)
 case hk => (repeat (first | exact gS.nil | (apply gS.cons; rfl)))
 ·clear hrk hk hL hbf hinv hse hl1 hl2 hll hLn hin hil
  repeat' (first | refine W_ ?_ | refine ac hG hst (aV _ _ _) ?_ | refine g_ (fun hg => ?_) (fun hg => ?_))
  all_goals
    refine dg () trivial (.of _ (jt.envCons (iE rfl ?_) jt.envNil) od_ pk_)
    simp only [Bool.not_eq_true', Bool.not_eq_false', ne_eq, Decidable.not_not] at *
    first
      | (simp [du, *]; done)
 intro _ _
 by_cases hh : du ⟨op, a, b, t⟩
 case neg =>
   have hB : dZ cs cl.length o k own ⟨op, a, b, t⟩ = false := by unfold dZ; rw [decide_eq_false hh]; rfl
   rw [hB, decide_eq_false hh, Bool.not_false]
   repeat' refine W_ ?_
   exact r1_
 have hB : dZ cs cl.length o k own ⟨op, a, b, t⟩ = cg cs cl.length o k own ⟨op, a, b, t⟩ := by unfold dZ; rw [decide_eq_true hh]; rfl
 rw [hB, decide_eq_true hh, Bool.not_true]
 have hlabt : (!inR b 0 ((L.length : Int) - 1)) = false -> (0 <= b /\ b <= (L.length : Int) - 1) /\ ∃ (q v : Nat) (y : au), (L.length : Int) - 1 - b = q /\ (aM L)[q]? = some [.int .i64 (v : Int)] /\ cs[v]? = some y /\ dJ cs o k b = some y := fun h => by
   have h2 : 0 <= b /\ b <= (L.length : Int) - 1 := by simpa [inR] using h
   exact ⟨h2, uF hinv hkl hL h2⟩
 have hlabf : (!inR b 0 ((L.length : Int) - 1)) = true -> rb cs o k ⟨op, a, b, t⟩ = false := fun h => by
   have h2 : ¬ (0 <= b /\ b <= (L.length : Int) - 1) := by
     intro h3
     rw [qY h3] at h; cases h
   unfold rb
   dsimp only
   rw [lZ hinv hkl hL h2]
 unfold f8 at hbf
 dsimp only at hbf
 clear hB hinv hL hk
 repeat' (first | ((with_reducible apply o_y); exact y_; rfl) | with_reducible refine eG (by kernel_rfl) (by kernel_rfl) ?_ | with_reducible refine gE ?_ | with_reducible refine ey ?_ | with_reducible refine eo rfl ?_ | refine f9 rfl rfl rfl rr_ ?_ | refine eO rfl rfl rfl rr_ rfl rfl rfl ?_ | refine dv rfl rfl rfl rr_ rfl rfl ?_ | (refine lP rfl rfl rfl rr_ dd_ ?_) | (refine lv rfl rfl rfl rr_ dd_ ?_) | (refine cX rfl rfl rfl rr_ (fun hg => ?_) (fun hg => ?_)) | (refine cJ rfl rfl rfl rr_ (fun hg => ?_) (fun hg => ?_)) | ((with_reducible apply d_y); exact y_; rfl) | refine ac hG hst (aV _ _ _) ?_ | refine ac hG hst (rh _ hx) ?_ | refine ac hG hst (hse _ hx) ?_ | refine ac hG hst (ft hst _ hx) ?_ | refine ae hG hst (aV _ _ _) ?_ | refine ae hG hst (hse _ hx) ?_ | with_reducible refine pH (id := 18) ?_ | with_reducible refine pH (id := 31) ?_  | with_reducible refine bS rfl ?_ | (with_reducible first | apply ck | apply bz | apply dr | apply cw | apply bJ | apply cq | apply cu | apply dx | apply aT | apply (aN rfl) | apply aU | apply aZ | apply aS | apply bM) | refine et rfl rfl rfl rr_ ?_ | refine da rfl rfl rfl rr_ rfl rfl rfl ?_ | refine cy rfl rfl rfl rr_ rfl rfl ?_ | (refine iC rfl rfl rfl rr_ dd_ ?_) | (refine ix rfl rfl rfl rr_ dd_ ?_) | (refine cV rfl rfl rfl rr_ (fun hg => ?_) (fun hg => ?_)) | (refine cO rfl rfl rfl rr_ (fun hg => ?_) (fun hg => ?_)) | refine bB rfl rr_ ?_ | refine bx rfl rr_ ?_ | (refine bf rfl rr_ dd_ ?_) | (refine bg rfl rr_ dd_ ?_) | (refine dy rfl rr_ (fun hc => ?_) (fun hc => ?_)) | (refine cA rfl rr_ (fun hc => ?_) (fun hc => ?_)))
 all_goals first
   | (refine aA x_ rfl (.tmp _ _ rfl) (fun _ => ?_)
      clear hlabt hrk hbf hl1 hl2 hll hil hcs hse hh
      refine aD ?_
      first
        | (simp [cg, *]; done)
        | (have hv := hlabf (by assumption)
           clear hlabf
           subst_vars
           simp [cg, hv]; done))
   | (refine ⟨?_⟩
      have h15 : op = 15 := by assumption
      obtain ⟨ha, y, hy, hyb⟩ := hbf h15
      obtain ⟨c, rfl⟩ : ∃ c : Nat, a = c := ⟨a.toNat, by omega⟩
      rw [Int.toNat_natCast] at hy
      have hry : (cs.map (au.tw lo))[c]? = some [.bool true, .int .i64 y.params, .int .i64 y.slots, .sl lo 4 (y.instrs.map (ai.tw lo))] := by rw [List.getElem?_map, hy, <- hyb]; rfl
      have cin := aV (G := G) (c : Int) 0 ((k - 1 : Nat) : Int)
      rw [qY (by omega)] at cin
      repeat' (first | refine V_ ?_ | refine ae hG hst (cin) ?_)
      refine aA x_ rfl (.tmp _ _ rfl) (fun _ => ?_)
      refine aD ?_
      simp [cg, h15]; done)
   | (refine ⟨?_⟩
      obtain ⟨hb, q, v, y, hq, hrow, hy, hlev⟩ := hlabt (by assumption)
      obtain ⟨c, rfl⟩ : ∃ c : Nat, b = c := ⟨b.toNat, by omega⟩
      obtain rfl : q = L.length - 1 - c := by omega
      have hry : (cs.map (au.tw lo))[v]? = some [.bool y.block, .int .i64 y.params, .int .i64 y.slots, .sl lo 4 (y.instrs.map (ai.tw lo))] := by rw [List.getElem?_map, hy]; rfl
      clear hlabt hlabf hbf hq
      repeat' (first | refine W_ ?_ | ((with_reducible apply kw (id := 18) 15); kernel_rfl; kernel_rfl; kernel_rfl; (repeat (first | exact Cut.zero _ | apply Cut.succ)); rfl; rfl; rfl; rfl; rfl; kernel_rfl; rfl) | ((with_reducible apply u_y); exact yu_; rfl) | (with_reducible refine tb ?_; intro ss bb) | refine ad ?_ | refine ac hG hst (aV _ _ _) ?_)
      all_goals first
        | (refine aA x_ rfl (.tmp _ _ rfl) (fun _ => ?_)
           refine aD ?_
           clear hrk hl1 hl2 hll hil hcs hse hh
           subst_vars
           simp [cg, rb, hlev]; done))
end
end Go.Proofs.YtiihihgjiklnoaaGreatDoor
