/- Part 50 of the proof: the texts FrL. -/
import Derived.Test.YtiihihgjiklnoaaGreatDoorQb10
import Derived.Test.YtiihihgjiklnoaaGreatDoorQb48
import Derived.Test.YtiihihgjiklnoaaGreatDoorQb23
import Derived.Test.YtiihihgjiklnoaaGreatDoorQb33
import Derived.Test.YtiihihgjiklnoaaGreatDoorQb49
/- The law FnExactFramesOf, walked. Written by gen_rl.py. -/
namespace Go.Proofs.YtiihihgjiklnoaaGreatDoor
set_option maxRecDepth 20000
set_option maxHeartbeats 2000000
open Go Go.RowKit
theorem yL (l : List Int) : ∀ y : Nat × Nat, True → (∀ s b o, (s, b, o) ∈ [(y.1, y.2, bu.row 1 (aO l))] → fS [(y.1, y.2, bu.row 1 (aO l))] o) ∧ gx [(y.1, y.2, bu.row 1 (aO l))] (.ms y.1 y.2 0 l.length) := fun y _ =>
  ⟨fun s b o h => by
    simp only [List.mem_singleton, Prod.mk.injEq] at h
    obtain ⟨_, _, rfl⟩ := h
    exact abz _ _, .ms _ _ _ _ _ _ List.mem_cons_self⟩
set_option maxRecDepth 4000 in
set_option maxHeartbeats 4000000 in
theorem j8 (x : ak) (hb : x.small 9223372036854775807) : Ct Tryz.prog GL 6 [.agg (x.tw 0)] (fun _ => .bool true) := by
  have hst := df
  have hto := fun hx => oG hst 0 x hx
  have htw := fun hx => nt hst 0 x hx
  refine ao Tryz.func6 rfl Tryz.ntmps6 rfl rfl fun w0 _ hG => ?_
  have hsp := fun hx => nr w0.heap.size x hx
  have him := fun (hx : x.small 1048576) => gL 0 x hx
  have him2 := fun (hx : x.small 1048576) => gL w0.heap.size x hx
  have heq := fun hx => n9 hst 0 w0.heap.size x hx
  have hmk := fun (hx : x.small 1048576) y hy => jT hst x y hy hx 1 (by omega)
  have hsm := fun (hx : x.small 1048576) => p8 hx
  have hvw : ∀ {objs : aI} {y : rI}, imI x y → (∀ o ∈ imO x y, o ∈ objs) → ci objs (.agg (imC x y)) (.agg (x.tw 0)) := fun h1 h2 => yf h1 h2
  have hnk := fun hx => oJ (x := x) hx 1
  have hsz := oR hst 0 x 1048576 (by omega) hb
  generalize d7 x = sels at hsp him him2 hsm
  have hnew := yL sels
  have hsl := lG sels
  unfold ak.tw at hto htw hsp him him2 heq hvw hsz ⊢
  repeat' (first | refine H_ 3 ?_ | refine aE ?_ | ((with_reducible apply aF); rfl; kernel_rfl; (repeat (first | exact aD.nil | ((with_reducible apply aD.cons); rfl))); exact hG; exact hsz; exact .nil _; intro y hy; refine bD ?_) | refine c_ (fun hc => ?_) (fun hc => ?_) | refine g_ (fun hg => ?_) (fun hg => ?_))
  refine ⟨?_⟩
  by_cases hneg : y < 0
  · repeat' (first | refine W_ ?_ | refine c_ (fun hc => ?_) (fun hc => ?_) | refine g_ (fun hg => ?_) (fun hg => ?_))
    exact r1_
  have hx := hy.2.2 (by omega)
  replace hto := hto hx
  replace htw := htw hx
  replace hsp := hsp hx
  replace him := him hx
  replace him2 := him2 hx
  replace heq := heq hx
  replace hnk := hnk hx
  replace hmk := hmk hx
  replace hsm := hsm hx
  have heqs := fun l1 l2 => mf hst l1 l2 sels (by omega)
  clear hb hy hsz
  repeat' (first | refine H_ 6 ?_ | refine ab hG hst (hto) ?_ | refine ab hG hst (hsp) ?_ | refine c_ (fun hc => ?_) (fun hc => ?_) | refine g_ (fun hg => ?_) (fun hg => ?_))
  refine ⟨?_⟩
  repeat' (first | refine H_ 7 ?_ | ((with_reducible apply aF); rfl; kernel_rfl; (repeat (first | exact aD.nil | ((with_reducible apply aD.cons); rfl))); exact hG; exact htw; exact .nil _; intro y hy) | (refine ai ?_; intro ss bb) | refine ad ?_ | refine c_ (fun hc => ?_) (fun hc => ?_) | refine g_ (fun hg => ?_) (fun hg => ?_))
  refine ⟨?_⟩
  generalize ss = s5; generalize bb = b5
  have hl1 := hmk y hy
  clear hmk
  unfold imC at hl1 hvw
  repeat' (first | refine H_ 8 ?_ | ((with_reducible apply ed); rfl; kernel_rfl; exact hG; exact hst; exact him; ((with_reducible apply cf.cons); rfl; exact hvw hy (fun o h => List.mem_cons_of_mem _ (List.mem_append_left _ h))); (repeat (first | exact cf.nil | ((with_reducible apply cf.cons); rfl; exact ci.same _))); exact hnew; rintro ⟨ss, bb⟩ -; refine br ?_) | refine c_ (fun hc => ?_) (fun hc => ?_) | refine g_ (fun hg => ?_) (fun hg => ?_))
  refine ⟨?_⟩
  generalize ss = sg; generalize bb = bg
  repeat' (first | refine HV_ 13 ?_ | refine fh hG hst (heqs 0 w0.heap.size) ?_ | refine ac hG hst (hto) ?_ | ((with_reducible apply x3); rfl; kernel_rfl; exact hG; exact hst; exact heq; (repeat (first | exact cf.nil | ((with_reducible apply cf.cons); rfl; (first | (with_reducible exact ci.same _) | exact hvw hy (fun o h => List.mem_cons_of_mem _ (List.mem_cons_of_mem _ (List.mem_append_left _ h)))))))) | refine c_ (fun hc => ?_) (fun hc => ?_) | refine g_ (fun hg => ?_) (fun hg => ?_))
  all_goals first
    | (exfalso; simp at hc; done)
    | skip
  refine ⟨?_⟩
  repeat' (first | refine W_ ?_ | refine c_ (fun hc => ?_) (fun hc => ?_) | refine g_ (fun hg => ?_) (fun hg => ?_))
  refine kr (lZ (imO x y) _ _ []) ?_
  repeat' (first | refine HV_ 16 ?_ | ((with_reducible apply aF); rfl; kernel_rfl; (repeat (first | exact aD.nil | ((with_reducible apply aD.cons); rfl))); exact hG; exact hl1; exact .app _ _; rintro ⟨⟩ -; refine cP (io _ _ _ _) ?_) | refine fh hG hst (heqs 0 w0.heap.size) ?_ | refine bY hG hst (heqs 0 w0.heap.size) ?_ | refine c_ (fun hc => ?_) (fun hc => ?_) | refine g_ (fun hg => ?_) (fun hg => ?_))
  all_goals first
    | (exfalso; simp at hc; done)
    | skip
  refine ⟨?_⟩
  have hmS := gR hst sg bg sels 1 (by omega) (by omega)
  have hhS := vR hst 0 sels 1 (by omega) (by omega)
  have hkS := je (nx := cZ) (l := sels) (k := 1) (jK _)
  have hml : (aO (mkL gP cZ 1 sels)).length = sels.length := by rw [lG, cL]
  generalize kL cZ 1 sels = kq at hmS hhS hkS
  generalize mkL gP cZ 1 sels = ms at hmS hhS hml
  repeat' (first | refine H_ 24 ?_ | ((with_reducible apply aF); rfl; kernel_rfl; (repeat (first | exact aD.nil | ((with_reducible apply aD.cons); rfl))); exact hG; exact hmS; exact .cons _ _ _ _ (.nil _); rintro ⟨⟩ -; refine br ?_) | refine fh hG hst (hhS) ?_ | refine c_ (fun hc => ?_) (fun hc => ?_) | refine g_ (fun hg => ?_) (fun hg => ?_))
  all_goals first
    | (exfalso; simp at hc; done)
    | skip
  refine ⟨?_⟩
  repeat' (first | refine W_ ?_ | refine ab hG hst (hto) ?_ | ((with_reducible apply ed); rfl; kernel_rfl; exact hG; exact hst; exact him2; ((repeat (first | exact cf.nil | ((with_reducible apply cf.cons); rfl; (first | with_reducible exact ci.same _ | ((with_reducible apply ci.msAll); (repeat (first | with_reducible exact mh | with_reducible refine mt ?_)); (first | with_reducible assumption | exact aP _ | exact aq _ | exact aQ _ | exact List.length_map _ | assumption | rfl)) | ((with_reducible apply view_code); (repeat (first | with_reducible exact mh | with_reducible refine mt ?_)); (first | with_reducible assumption | exact aP _ | exact aq _ | exact aQ _ | exact List.length_map _ | assumption | rfl)) | ((with_reducible apply ci.cut); exact ci.cp0 _ _; rfl)))))); exact hnew; rintro ⟨ss, bb⟩ -; refine br ?_) | refine fh hG hst (heqs 0 w0.heap.size) ?_ | refine fh hG hst (hhS) ?_ | refine c_ (fun hc => ?_) (fun hc => ?_) | refine g_ (fun hg => ?_) (fun hg => ?_))
  all_goals first
    | (exact r1_)
    | (exfalso; simp at hc; done)
theorem fk (w : World) (t : PT) (x : ak) (hat : ez t x) (hsee : dK w (· < w.heap.size) t) (hx : x.sane) (hm : qP w) : Calls Tryz.prog 6 #[.agg t.cells.toArray] w fun e w' => e = .returned (.bool true) ∧ Below w.heap.size w w' := by
  have h0 : 0 < w.heap.size := by
    obtain ⟨m, hm⟩ := hm
    have := World.block_lt_of_cell? w _ hm
    omega
  have hok := z7 w _ _ hsee
  have hsm := mM hat hsee hx
  rw [rW hat] at hok
  refine (j8 x hsm w _ h0 hm rfl ?_).mono ?_
  · intro i t v h1 h2
    match i, h1, h2 with
    | 0, h1, h2 =>
      cases h1; cases h2
      exact .agg _ _ hok.2.1 (by simpa using hok.1) (fun i t v ht hv => hok.2.2 i t v ht (by simpa using hv))
  · rintro e w' ⟨v, rfl, hb, hr⟩
    have := (hr 0 (Nat.zero_le _)).bool_inv
    subst this
    exact ⟨rfl, hb⟩
end Go.Proofs.YtiihihgjiklnoaaGreatDoor
