/- Part 48 of the proof: the texts FiL. -/
import Derived.Test.YtigipcbnfeoliaaGreatDoorFi3
import Derived.Test.YtigipcbnfeoliaaGreatDoorFi47
import Derived.Test.YtigipcbnfeoliaaGreatDoorFi18
import Derived.Test.YtigipcbnfeoliaaGreatDoorFi46
import Derived.Test.YtigipcbnfeoliaaGreatDoorFi37
import Derived.Test.YtigipcbnfeoliaaGreatDoorFi33
set_option linter.all false
set_option maxHeartbeats 4000000
set_option maxRecDepth 20000
namespace Go.Proofs.YtigipcbnfeoliaaGreatDoor
open Go Go.RowKit
theorem abg (l : List ByteArray) : ∀ y : Nat × Nat, True -> (∀ s b o, (s, b, o) ∈ [(y.1, y.2, bv.row 1 (aT l))] -> kC [(y.1, y.2, bv.row 1 (aT l))] o) /\ jy [(y.1, y.2, bv.row 1 (aT l))] (.ms y.1 y.2 0 l.length) := fun y _ =>
 ⟨fun s b o h => by
   simp only [List.mem_singleton, Prod.mk.injEq] at h
   obtain ⟨_, _, rfl⟩ := h
   exact rC (uy _), .ms _ _ _ _ _ _ List.mem_cons_self⟩
theorem iU (x : ao) (hs : x.sane) (hb : x.small 9223372036854775807) : Ct Tryz.prog GF 4 [.agg (x.tw 0)] (fun _ => .bool true) := by
 have hst := fp
 have hto := fun hx => vz hst 0 x hx
 have htw := fun hx => oW hst 0 x hx
 refine aq Tryz.func4 rfl Tryz.ntmps4 rfl rfl fun w0 _ hG => ?_
 have hsp := fun hx => lr w0.heap.size x hs hx
 have him := fun (hx : x.small 1048576) => fG 0 x hs hx
 have him2 := fun (hx : x.small 1048576) => fG w0.heap.size x hs hx
 have heq := fun hx => yY hst 0 w0.heap.size x hx
 have hmk := fun (hx : x.small 1048576) y hy => rd hst x y hy hx 1 (by omega)
 have hsm := fun (hx : x.small 1048576) => lq hx
 have hvw : ∀ {objs : aF} {y : sx}, imI x y -> (∀ o ∈ imO x y, o ∈ objs) -> cz objs (.agg (imC x y)) (.agg (x.tw 0)) := fun h1 h2 => adl h1 h2
 have hnk := fun hx => x3 (x := x) hx 1
 have hsz := zw hst 0 x 1048576 (by omega) hb
 generalize cN x = sels at hsp him him2 hsm
 have hnew := abg sels
 have hsl := aG sels
 unfold ao.tw at hto htw hsp him him2 heq hvw hsz |-
 repeat' (first | refine H_ 3 ?_ | refine aJ ?_ | ((with_reducible apply aE); rfl; kernel_rfl; (repeat (first | exact ay.nil | ((with_reducible apply ay.cons); rfl))); exact hG; exact hsz; exact .nil _; intro y hy; refine bL ?_) | refine c_ (fun hc => ?_) (fun hc => ?_) | refine g_ (fun hg => ?_) (fun hg => ?_))
 refine ⟨?_⟩
 by_cases hneg : y < 0
 ·repeat' (first | refine W_ ?_ | refine c_ (fun hc => ?_) (fun hc => ?_) | refine g_ (fun hg => ?_) (fun hg => ?_))
  exact r1_
 have hx := hy.2.2 (by omega)
 replace hto := hto hx
 replace htw := htw hx
 replace hsp := hsp hx
 replace him := him hx
 replace him2 := him2 hx
 replace heq := heq hx
 replace hnk := hnk hx
 replace hmk := hmk hx
 replace hsm := hsm hx
 have heqs := fun l1 l2 => kQ (G := GF) l1 l2 sels (by omega)
 clear hb hy hsz
 repeat' (first | refine H_ 6 ?_ | refine ac hG hst (hto) ?_ | refine ac hG hst (hsp) ?_ | refine c_ (fun hc => ?_) (fun hc => ?_) | refine g_ (fun hg => ?_) (fun hg => ?_))
 refine ⟨?_⟩
 repeat' (first | refine H_ 7 ?_ | ((with_reducible apply aE); rfl; kernel_rfl; (repeat (first | exact ay.nil | ((with_reducible apply ay.cons); rfl))); exact hG; exact htw; exact .nil _; intro y hy) | (refine ak ?_; intro ss bb) | refine ae ?_ | refine c_ (fun hc => ?_) (fun hc => ?_) | refine g_ (fun hg => ?_) (fun hg => ?_))
 refine ⟨?_⟩
 generalize ss = s5; generalize bb = b5
 have hl1 := hmk y hy
 clear hmk
 unfold imC at hl1 hvw
 repeat' (first | refine H_ 8 ?_ | ((with_reducible apply fc); rfl; kernel_rfl; exact hG; exact hst; exact him; ((with_reducible apply dg.cons); rfl; exact hvw hy (fun o h => List.mem_cons_of_mem _ (List.mem_append_left _ h))); (repeat (first | exact dg.nil | ((with_reducible apply dg.cons); rfl; exact cz.same _))); exact hnew; rintro ⟨ss, bb⟩ -; refine bF ?_) | refine c_ (fun hc => ?_) (fun hc => ?_) | refine g_ (fun hg => ?_) (fun hg => ?_))
 refine ⟨?_⟩
 generalize ss = sg; generalize bb = bg
 repeat' (first | refine HV_ 13 ?_ | refine j9 hG hst (heqs 0 w0.heap.size) ?_ | refine ad hG hst (hto) ?_ | ((with_reducible apply adR); rfl; kernel_rfl; exact hG; exact hst; exact heq; (repeat (first | exact dg.nil | ((with_reducible apply dg.cons); rfl; (first | (with_reducible exact cz.same _) | exact hvw hy (fun o h => List.mem_cons_of_mem _ (List.mem_cons_of_mem _ (List.mem_append_left _ h)))))))) | refine c_ (fun hc => ?_) (fun hc => ?_) | refine g_ (fun hg => ?_) (fun hg => ?_))
 all_goals first
   | (exfalso; simp at hc; done)
   | skip
 refine ⟨?_⟩
 repeat' (first | refine W_ ?_ | refine c_ (fun hc => ?_) (fun hc => ?_) | refine g_ (fun hg => ?_) (fun hg => ?_))
 refine mc (uU (imO x y) _ _ []) ?_
 repeat' (first | refine HV_ 16 ?_ | ((with_reducible apply aE); rfl; kernel_rfl; (repeat (first | exact ay.nil | ((with_reducible apply ay.cons); rfl))); exact hG; exact hl1; exact .app _ _; rintro ⟨⟩ -; refine bY (kD _ _ _ _) ?_) | refine j9 hG hst (heqs 0 w0.heap.size) ?_ | refine cD hG hst (heqs 0 w0.heap.size) ?_ | refine c_ (fun hc => ?_) (fun hc => ?_) | refine g_ (fun hg => ?_) (fun hg => ?_))
 all_goals first
   | (exfalso; simp at hc; done)
   | skip
 refine ⟨?_⟩
 have hmS := iE hst sg bg sels 1 (by omega) (by omega)
 have hhS := pK hst 0 sels 1 (by omega) (by omega)
 have hkS := kw (nx := aZ) (l := sels) (k := 1) (fJ _)
 have hml : (aT (mkL cu aZ 1 sels)).length = sels.length := by rw [aG, dn]
 generalize kL aZ 1 sels = kq at hmS hhS hkS
 generalize mkL cu aZ 1 sels = ms at hmS hhS hml
 repeat' (first | refine H_ 24 ?_ | ((with_reducible apply aE); rfl; kernel_rfl; (repeat (first | exact ay.nil | ((with_reducible apply ay.cons); rfl))); exact hG; exact hmS; exact .cons _ _ _ _ (.nil _); rintro ⟨⟩ -; refine bF ?_) | refine j9 hG hst (hhS) ?_ | refine c_ (fun hc => ?_) (fun hc => ?_) | refine g_ (fun hg => ?_) (fun hg => ?_))
 all_goals first
   | (exfalso; simp at hc; done)
   | skip
 refine ⟨?_⟩
 repeat' (first | refine W_ ?_ | refine ac hG hst (hto) ?_ | ((with_reducible apply fc); rfl; kernel_rfl; exact hG; exact hst; exact him2; ((repeat (first | exact dg.nil | ((with_reducible apply dg.cons); rfl; (first | with_reducible exact cz.same _ | ((with_reducible apply cz.msAll); (repeat (first | with_reducible exact mh | with_reducible refine mt ?_)); (first | with_reducible assumption | exact aW _ | exact ar _ | exact aV _ | exact List.length_map _ | assumption | rfl)) | ((with_reducible apply dM); (repeat (first | with_reducible exact mh | with_reducible refine mt ?_)); (first | with_reducible assumption | exact aW _ | exact ar _ | exact aV _ | exact List.length_map _ | assumption | rfl)) | ((with_reducible apply cz.cut); exact cz.cp0 _ _; rfl)))))); exact hnew; rintro ⟨ss, bb⟩ -; refine bF ?_) | refine j9 hG hst (heqs 0 w0.heap.size) ?_ | refine j9 hG hst (hhS) ?_ | refine c_ (fun hc => ?_) (fun hc => ?_) | refine g_ (fun hg => ?_) (fun hg => ?_))
 all_goals first
   | (exact r1_)
   | (exfalso; simp at hc; done)
theorem eD (w : World) (t : PT) (x : ao) (hat : f9 t x) (hsee : d9 w (· < w.heap.size) t) (hx : x.sane) (hm : ex w) (ht : kh w) : Calls Tryz.prog 4 #[.agg t.cells.toArray] w fun e w' => e = .returned (.bool true) /\ Below w.heap.size w w' := by
 have h0 : 0 < w.heap.size := by
   obtain ⟨m, hm⟩ := hm
   have := World.block_lt_of_cell? w _ hm
   omega
 have hok := ado w _ _ hsee
 have hsm := wq hat hsee hx
 rw [abA hat] at hok
 refine (iU x hx hsm w _ h0 ⟨hm, ht⟩ rfl ?_).mono ?_
 ·intro i t v h1 h2
  match i, h1, h2 with
  | 0, h1, h2 =>
    cases h1; cases h2
    exact .agg _ _ hok.2.1 (by simpa using hok.1) (fun i t v ht hv => hok.2.2 i t v ht (by simpa using hv))
 ·rintro e w' ⟨v, rfl, hb, hr⟩
  have := (hr 0 (Nat.zero_le _)).bool_inv
  subst this
  exact ⟨rfl, hb⟩
end Go.Proofs.YtigipcbnfeoliaaGreatDoor
