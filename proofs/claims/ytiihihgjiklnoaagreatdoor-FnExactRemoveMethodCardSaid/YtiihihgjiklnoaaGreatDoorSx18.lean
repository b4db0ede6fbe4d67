/- Part 18 of the proof. -/
import Derived.Test.YtiihihgjiklnoaaGreatDoorSx3
import Derived.Test.YtiihihgjiklnoaaGreatDoorSx15
set_option maxHeartbeats 8000000
set_option maxRecDepth 20000
namespace Go.Proofs.YtiihihgjiklnoaaGreatDoor
open Go Go.RowKit
section
variable {G : World -> Prop}
theorem vo (hst : ay G) (hse : ∀ s : ByteArray, s.size <= 1048576 -> Ct Tryz.prog G 203 [.str s] (fun _ => .bool (cS s.data.toList)))
   (f lo lo2 : Nat) (cl : List aa) (cen : TV) (cs : List az) (mn : Int) (hcl : cl.length <= 1048576) (hcs : cs.length <= 1048576 /\ ∀ y ∈ cs, az.small 1048576 y) (o : List Int) (hinv : db cs.length o) (k : Nat) (own : az) (hk : cs[k]? = some own) (hsl : 0 <= own.slots /\ own.slots <= 30)
   (L : List Int) (hL : L = (gT o cs.length k).reverse) (x : ah) (hx : x.text.size <= 1048576) (hbf : jr cs k x) :
   Ct Tryz.prog G 205 [.cp f [.sl lo 3 (cl.map (aa.tw lo)), .sl lo 4 (cs.map (az.tw lo)), cen, .int .i64 mn], .int .i64 (k : Int), .agg [.int .i64 x.op, .int .i64 x.a, .int .i64 x.b, .str x.text], .sl lo2 1 (aS L)] (fun _ => .bool (fB cs cl.length o k own x)) := by
 obtain ⟨op, a, b, t⟩ := x
 dsimp only at hx |-
 refine ap Tryz.func205 rfl Tryz.ntmps205 rfl rfl fun w0 _ hG => ?_
 have hl1 := aa.len lo cl
 have hl2 := az.len lo cs
 have hll := am L
 have hLn : L.length <= 1048576 := by rw [hL, List.length_reverse]; exact Nat.le_trans (kR _ _ _) hcs.1
 have hkl : k < cs.length := (List.getElem?_eq_some_iff.1 hk).1
 have hrk : (cs.map (az.tw lo))[k]? = some [.bool own.block, .int .i64 own.params, .int .i64 own.slots, .sl lo 4 (own.instrs.map (ah.tw lo))] := by rw [List.getElem?_map, hk]; rfl
 have hil := ah.len lo own.instrs
 have hin : own.instrs.length <= 1048576 := (hcs.2 own (List.mem_of_getElem? hk)).1
 repeat' (first | refine H_ 3 ?_ | refine aL ?_ | (refine ai ?_; intro ss bb) | refine ac ?_ | refine ab hG hst (ze _) ?_)
 refine ⟨dc ?_⟩
 generalize ss = s9; generalize bb = b9
 apply f6 (X := Unit) [0, 1, 3, 6, 9] (fun _ => [(60, .bool (!decide (ew ⟨op, a, b, t⟩)))]) (fun _ => [(s9, b9, .box [.bool own.block, .int .i64 own.params, .int .i64 own.slots, .sl lo 4 (own.instrs.map (ah.tw lo))])]) (fun _ => True)
 case hk => (repeat (first | exact jg.nil | (apply jg.cons; rfl)))
 ·clear hrk hk hL hbf hinv hse hl1 hl2 hll hLn hin hil
  repeat' (first | refine W_ ?_ | refine ab hG hst (bv _ _ _) ?_ | refine g_ (fun hg => ?_) (fun hg => ?_))
  all_goals
    refine ep () trivial (.of _ (cw.envCons (jb rfl ?_) cw.envNil) od_ pk_)
    simp only [Bool.not_eq_true', Bool.not_eq_false', ne_eq, Decidable.not_not] at *
    first
      | (simp [ew, *]; done)
 intro _ _
 by_cases hh : ew ⟨op, a, b, t⟩
 case neg =>
   have hB : fB cs cl.length o k own ⟨op, a, b, t⟩ = false := by unfold fB; rw [decide_eq_false hh]; rfl
   rw [hB, decide_eq_false hh, Bool.not_false]
   repeat' refine W_ ?_
   exact r1_
 have hB : fB cs cl.length o k own ⟨op, a, b, t⟩ = cZ cs cl.length o k own ⟨op, a, b, t⟩ := by unfold fB; rw [decide_eq_true hh]; rfl
 rw [hB, decide_eq_true hh, Bool.not_true]
 have hlabt : (!inR b 0 ((L.length : Int) - 1)) = false -> (0 <= b /\ b <= (L.length : Int) - 1) /\ ∃ (q v : Nat) (y : az), (L.length : Int) - 1 - b = q /\ (aS L)[q]? = some [.int .i64 (v : Int)] /\ cs[v]? = some y /\ fc cs o k b = some y := fun h => by
   have h2 : 0 <= b /\ b <= (L.length : Int) - 1 := by simpa [inR] using h
   exact ⟨h2, yI hinv hkl hL h2⟩
 have hlabf : (!inR b 0 ((L.length : Int) - 1)) = true -> vy cs o k ⟨op, a, b, t⟩ = false := fun h => by
   have h2 : ¬ (0 <= b /\ b <= (L.length : Int) - 1) := by
     intro h3
     rw [wm h3] at h; cases h
   unfold vy
   dsimp only
   rw [oW hinv hkl hL h2]
 unfold jr at hbf
 dsimp only at hbf
 clear hB hinv hL hk
 repeat' (first | ((with_reducible apply o_y); exact y_; rfl) | with_reducible refine gI (by kernel_rfl) (by kernel_rfl) ?_ | with_reducible refine jU ?_ | with_reducible refine gN ?_ | with_reducible refine gG rfl ?_ | refine jP rfl rfl rfl rr_ ?_ | refine gH rfl rfl rfl rr_ rfl rfl rfl ?_ | refine fk rfl rfl rfl rr_ rfl rfl ?_ | (refine o7 rfl rfl rfl rr_ dd_ ?_) | (refine pv rfl rfl rfl rr_ dd_ ?_) | (refine eD rfl rfl rfl rr_ (fun hg => ?_) (fun hg => ?_)) | (refine eh rfl rfl rfl rr_ (fun hg => ?_) (fun hg => ?_)) | ((with_reducible apply d_y); exact y_; rfl) | refine ab hG hst (bv _ _ _) ?_ | refine ab hG hst (uU _ hx) ?_ | refine ab hG hst (hse _ hx) ?_ | refine ab hG hst (iG hst _ hx) ?_ | refine ae hG hst (bv _ _ _) ?_ | refine ae hG hst (hse _ hx) ?_ | with_reducible refine sU (id := 18) ?_ | with_reducible refine sU (id := 31) ?_  | with_reducible refine cD rfl ?_ | (with_reducible first | apply dc | apply bW | apply eH | apply dn | apply cu | apply dr | apply dl | apply eI | apply bm | apply (aW rfl) | apply bj | apply bw | apply bu | apply cy) | refine fX rfl rfl rfl rr_ ?_ | refine ee rfl rfl rfl rr_ rfl rfl rfl ?_ | refine dq rfl rfl rfl rr_ rfl rfl ?_ | (refine kf rfl rfl rfl rr_ dd_ ?_) | (refine j7 rfl rfl rfl rr_ dd_ ?_) | (refine dZ rfl rfl rfl rr_ (fun hg => ?_) (fun hg => ?_)) | (refine dI rfl rfl rfl rr_ (fun hg => ?_) (fun hg => ?_)) | refine bT rfl rr_ ?_ | refine bY rfl rr_ ?_ | (refine bG rfl rr_ dd_ ?_) | (refine bH rfl rr_ dd_ ?_) | (refine eM rfl rr_ (fun hc => ?_) (fun hc => ?_)) | (refine dw rfl rr_ (fun hc => ?_) (fun hc => ?_)))
 all_goals first
   | (refine aE x_ rfl (.tmp _ _ rfl) (fun _ => ?_)
      clear hlabt hrk hbf hl1 hl2 hll hil hcs hse hh
      refine aM ?_
      first
        | (simp [cZ, *]; done)
        | (have hv := hlabf (by assumption)
           clear hlabf
           subst_vars
           simp [cZ, hv]; done))
   | (refine ⟨?_⟩
      have h15 : op = 15 := by assumption
      obtain ⟨ha, y, hy, hyb⟩ := hbf h15
      obtain ⟨c, rfl⟩ : ∃ c : Nat, a = c := ⟨a.toNat, by omega⟩
      rw [Int.toNat_natCast] at hy
      have hry : (cs.map (az.tw lo))[c]? = some [.bool true, .int .i64 y.params, .int .i64 y.slots, .sl lo 4 (y.instrs.map (ah.tw lo))] := by rw [List.getElem?_map, hy, <- hyb]; rfl
      have cin := bv (G := G) (c : Int) 0 ((k - 1 : Nat) : Int)
      rw [wm (by omega)] at cin
      repeat' (first | refine V_ ?_ | refine ae hG hst (cin) ?_)
      refine aE x_ rfl (.tmp _ _ rfl) (fun _ => ?_)
      refine aM ?_
      simp [cZ, h15]; done)
   | (refine ⟨?_⟩
      obtain ⟨hb, q, v, y, hq, hrow, hy, hlev⟩ := hlabt (by assumption)
      obtain ⟨c, rfl⟩ : ∃ c : Nat, b = c := ⟨b.toNat, by omega⟩
      obtain rfl : q = L.length - 1 - c := by omega
      have hry : (cs.map (az.tw lo))[v]? = some [.bool y.block, .int .i64 y.params, .int .i64 y.slots, .sl lo 4 (y.instrs.map (ah.tw lo))] := by rw [List.getElem?_map, hy]; rfl
      clear hlabt hlabf hbf hq
      repeat' (first | refine W_ ?_ | ((with_reducible apply wN (id := 18) 15); kernel_rfl; kernel_rfl; kernel_rfl; (repeat (first | exact Cut.zero _ | apply Cut.succ)); rfl; rfl; rfl; rfl; rfl; kernel_rfl; rfl) | ((with_reducible apply u_y); exact yu_; rfl) | (with_reducible refine acT ?_; intro ss bb) | refine ac ?_ | refine ab hG hst (bv _ _ _) ?_)
      all_goals first
        | (refine aE x_ rfl (.tmp _ _ rfl) (fun _ => ?_)
           refine aM ?_
           clear hrk hl1 hl2 hll hil hcs hse hh
           subst_vars
           simp [cZ, vy, hlev]; done))
end
end Go.Proofs.YtiihihgjiklnoaaGreatDoor
