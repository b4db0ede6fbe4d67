/- Part 18 of the proof: the texts IvM. -/
import Derived.Test.YtiihihgjiklnoaaGreatDoorSr3
import Derived.Test.YtiihihgjiklnoaaGreatDoorSr15
set_option linter.all false
set_option maxHeartbeats 8000000
set_option maxRecDepth 20000
namespace Go.Proofs.YtiihihgjiklnoaaGreatDoor
open Go Go.RowKit
section
variable {G : World -> Prop}
theorem vx (hst : az G) (hse : ∀ s : ByteArray, s.size <= 1048576 -> Ct Tryz.prog G 203 [.str s] (fun _ => .bool (cO s.data.toList)))
   (f lo lo2 : Nat) (cl : List aa) (cen : TV) (cs : List aC) (mn : Int) (hcl : cl.length <= 1048576) (hcs : cs.length <= 1048576 /\ ∀ y ∈ cs, aC.small 1048576 y) (o : List Int) (hinv : dc cs.length o) (k : Nat) (own : aC) (hk : cs[k]? = some own) (hsl : 0 <= own.slots /\ own.slots <= 30)
   (L : List Int) (hL : L = (gG o cs.length k).reverse) (x : ah) (hx : x.text.size <= 1048576) (hbf : i8 cs k x) :
   Ct Tryz.prog G 205 [.cp f [.sl lo 3 (cl.map (aa.tw lo)), .sl lo 4 (cs.map (aC.tw lo)), cen, .int .i64 mn], .int .i64 (k : Int), .agg [.int .i64 x.op, .int .i64 x.a, .int .i64 x.b, .str x.text], .sl lo2 1 (aS L)] (fun _ => .bool (fi cs cl.length o k own x)) := by
 obtain ⟨op, a, b, t⟩ := x
 dsimp only at hx |-
 refine aq Tryz.func205 rfl Tryz.ntmps205 rfl rfl fun w0 _ hG => ?_
 have hl1 := aa.len lo cl
 have hl2 := aC.len lo cs
 have hll := ai L
 have hLn : L.length <= 1048576 := by rw [hL, List.length_reverse]; exact Nat.le_trans (ku _ _ _) hcs.1
 have hkl : k < cs.length := (List.getElem?_eq_some_iff.1 hk).1
 have hrk : (cs.map (aC.tw lo))[k]? = some [.bool own.block, .int .i64 own.params, .int .i64 own.slots, .sl lo 4 (own.instrs.map (ah.tw lo))] := by rw [List.getElem?_map, hk]; rfl
 have hil := ah.len lo own.instrs
 have hin : own.instrs.length <= 1048576 := (hcs.2 own (List.mem_of_getElem? hk)).1
 repeat' (first | refine H_ 3 ?_ | refine aM ?_ | (refine am ?_; intro ss bb) | refine ac ?_ | refine ad hG hst (xV _) ?_)
 refine ⟨dF ?_⟩
 generalize ss = s9; generalize bb = b9
 apply f3 (X := Unit) [0, 1, 3, 6, 9] (fun _ => [(60, .bool (!decide (eo ⟨op, a, b, t⟩)))]) (fun _ => [(s9, b9, .box [.bool own.block, .int .i64 own.params, .int .i64 own.slots, .sl lo 4 (own.instrs.map (ah.tw lo))])]) (fun _ => True)
 case hk => (repeat (first | exact jF.nil | (apply jF.cons; rfl)))
 ·clear hrk hk hL hbf hinv hse hl1 hl2 hll hLn hin hil
  repeat' (first | refine W_ ?_ | refine ad hG hst (bu _ _ _) ?_ | refine g_ (fun hg => ?_) (fun hg => ?_))
  all_goals
    refine ei () trivial (.of _ (cE.envCons (j0 rfl ?_) cE.envNil) od_ pk_)
    simp only [Bool.not_eq_true', Bool.not_eq_false', ne_eq, Decidable.not_not] at *
    first
      | (simp [eo, *]; done)
 intro _ _
 by_cases hh : eo ⟨op, a, b, t⟩
 case neg =>
   have hB : fi cs cl.length o k own ⟨op, a, b, t⟩ = false := by unfold fi; rw [decide_eq_false hh]; rfl
   rw [hB, decide_eq_false hh, Bool.not_false]
   repeat' refine W_ ?_
   exact r1_
 have hB : fi cs cl.length o k own ⟨op, a, b, t⟩ = da cs cl.length o k own ⟨op, a, b, t⟩ := by unfold fi; rw [decide_eq_true hh]; rfl
 rw [hB, decide_eq_true hh, Bool.not_true]
 have hlabt : (!inR b 0 ((L.length : Int) - 1)) = false -> (0 <= b /\ b <= (L.length : Int) - 1) /\ ∃ (q v : Nat) (y : aC), (L.length : Int) - 1 - b = q /\ (aS L)[q]? = some [.int .i64 (v : Int)] /\ cs[v]? = some y /\ eR cs o k b = some y := fun h => by
   have h2 : 0 <= b /\ b <= (L.length : Int) - 1 := by simpa [inR] using h
   exact ⟨h2, x5 hinv hkl hL h2⟩
 have hlabf : (!inR b 0 ((L.length : Int) - 1)) = true -> vq cs o k ⟨op, a, b, t⟩ = false := fun h => by
   have h2 : ¬ (0 <= b /\ b <= (L.length : Int) - 1) := by
     intro h3
     rw [uK h3] at h; cases h
   unfold vq
   dsimp only
   rw [pF hinv hkl hL h2]
 unfold i8 at hbf
 dsimp only at hbf
 clear hB hinv hL hk
 repeat' (first | ((with_reducible apply o_y); exact y_; rfl) | with_reducible refine fW (by kernel_rfl) (by kernel_rfl) ?_ | with_reducible refine iV ?_ | with_reducible refine f6 ?_ | with_reducible refine fU rfl ?_ | refine i5 rfl rfl rfl rr_ ?_ | refine fT rfl rfl rfl rr_ rfl rfl rfl ?_ | refine ep rfl rfl rfl rr_ rfl rfl ?_ | (refine oy rfl rfl rfl rr_ dd_ ?_) | (refine ox rfl rfl rfl rr_ dd_ ?_) | (refine dq rfl rfl rfl rr_ (fun hg => ?_) (fun hg => ?_)) | (refine cT rfl rfl rfl rr_ (fun hg => ?_) (fun hg => ?_)) | ((with_reducible apply d_y); exact y_; rfl) | refine ad hG hst (bu _ _ _) ?_ | refine ad hG hst (uF _ hx) ?_ | refine ad hG hst (hse _ hx) ?_ | refine ad hG hst (ig hst _ hx) ?_ | refine ae hG hst (bu _ _ _) ?_ | refine ae hG hst (hse _ hx) ?_ | with_reducible refine uf (id := 18) ?_ | with_reducible refine uf (id := 31) ?_  | with_reducible refine dn rfl ?_ | (with_reducible first | apply dF | apply cy | apply fZ | apply ed | apply cZ | apply d9 | apply eb | apply fJ | apply bE | apply (bv rfl) | apply bG | apply bL | apply bF | apply dl) | refine iT rfl rfl rfl rr_ ?_ | refine f4 rfl rfl rfl rr_ rfl rfl rfl ?_ | refine ex rfl rfl rfl rr_ rfl rfl ?_ | (refine nt rfl rfl rfl rr_ dd_ ?_) | (refine ni rfl rfl rfl rr_ dd_ ?_) | (refine dX rfl rfl rfl rr_ (fun hg => ?_) (fun hg => ?_)) | (refine dA rfl rfl rfl rr_ (fun hg => ?_) (fun hg => ?_)) | refine cx rfl rr_ ?_ | refine cw rfl rr_ ?_ | (refine ca rfl rr_ dd_ ?_) | (refine ce rfl rr_ dd_ ?_) | (refine ez rfl rr_ (fun hc => ?_) (fun hc => ?_)) | (refine dt rfl rr_ (fun hc => ?_) (fun hc => ?_)))
 all_goals first
   | (refine aI x_ rfl (.tmp _ _ rfl) (fun _ => ?_)
      clear hlabt hrk hbf hl1 hl2 hll hil hcs hse hh
      refine aL ?_
      first
        | (simp [da, *]; done)
        | (have hv := hlabf (by assumption)
           clear hlabf
           subst_vars
           simp [da, hv]; done))
   | (refine ⟨?_⟩
      have h15 : op = 15 := by assumption
      obtain ⟨ha, y, hy, hyb⟩ := hbf h15
      obtain ⟨c, rfl⟩ : ∃ c : Nat, a = c := ⟨a.toNat, by omega⟩
      rw [Int.toNat_natCast] at hy
      have hry : (cs.map (aC.tw lo))[c]? = some [.bool true, .int .i64 y.params, .int .i64 y.slots, .sl lo 4 (y.instrs.map (ah.tw lo))] := by rw [List.getElem?_map, hy, <- hyb]; rfl
      have cin := bu (G := G) (c : Int) 0 ((k - 1 : Nat) : Int)
      rw [uK (by omega)] at cin
      repeat' (first | refine V_ ?_ | refine ae hG hst (cin) ?_)
      refine aI x_ rfl (.tmp _ _ rfl) (fun _ => ?_)
      refine aL ?_
      simp [da, h15]; done)
   | (refine ⟨?_⟩
      obtain ⟨hb, q, v, y, hq, hrow, hy, hlev⟩ := hlabt (by assumption)
      obtain ⟨c, rfl⟩ : ∃ c : Nat, b = c := ⟨b.toNat, by omega⟩
      obtain rfl : q = L.length - 1 - c := by omega
      have hry : (cs.map (aC.tw lo))[v]? = some [.bool y.block, .int .i64 y.params, .int .i64 y.slots, .sl lo 4 (y.instrs.map (ah.tw lo))] := by rw [List.getElem?_map, hy]; rfl
      clear hlabt hlabf hbf hq
      repeat' (first | refine W_ ?_ | ((with_reducible apply wG (id := 18) 15); kernel_rfl; kernel_rfl; kernel_rfl; (repeat (first | exact Cut.zero _ | apply Cut.succ)); rfl; rfl; rfl; rfl; rfl; kernel_rfl; rfl) | ((with_reducible apply u_y); exact yu_; rfl) | (with_reducible refine acn ?_; intro ss bb) | refine ac ?_ | refine ad hG hst (bu _ _ _) ?_)
      all_goals first
        | (refine aI x_ rfl (.tmp _ _ rfl) (fun _ => ?_)
           refine aL ?_
           clear hrk hl1 hl2 hll hil hcs hse hh
           subst_vars
           simp [da, vq, hlev]; done))
end
end Go.Proofs.YtiihihgjiklnoaaGreatDoor
