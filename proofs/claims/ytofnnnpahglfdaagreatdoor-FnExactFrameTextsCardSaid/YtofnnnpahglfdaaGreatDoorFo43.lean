/- Part 43 of the proof: the texts FtB, FtL. -/
import Derived.Test.YtofnnnpahglfdaaGreatDoorFo3
import Derived.Test.YtofnnnpahglfdaaGreatDoorFo42
import Derived.Test.YtofnnnpahglfdaaGreatDoorFo41
import Derived.Test.YtofnnnpahglfdaaGreatDoorFo19
import Derived.Test.YtofnnnpahglfdaaGreatDoorFo39
import Derived.Test.YtofnnnpahglfdaaGreatDoorFo29
import Derived.Test.YtofnnnpahglfdaaGreatDoorFo25
set_option linter.all false
set_option maxHeartbeats 4000000
set_option maxRecDepth 20000
namespace Go.Proofs.YtofnnnpahglfdaaGreatDoor
open Go Go.RowKit
theorem CtM.monoF {P : Program} {G G2 : World -> Prop} {f : FuncId} {args : List TV} {objs : aH} {Y : Type} {I : Y -> Prop} {O : Y -> aH} {r : Y -> TV} (h : CtM P G f args objs I O r) (hg : ∀ w, G2 w -> G w) : CtM P G2 f args objs I O r := fun w0 w R gs vs h0 => h w0 w R gs vs (hg w0 h0)
theorem yQ {m : ai} {i : Int} (h : i ∈ cK m) : bX m = true := by
 unfold cK at h
 split at h
 ·rename_i hv; exact hv.1
 ·simp at h
theorem wo (lo : Nat) (b : aw) (hs : b.small 1048576) (ok : aeS b) (k : Nat) (hk : k < b.codes.length) : Ct Tryz.prog GF 62 [.agg (b.tw lo), .int .i64 (k : Int)] (fun _ => .str (iL b (k : Int))) := by
 refine am Tryz.func62 rfl Tryz.ntmps62 rfl rfl fun w0 _ hG => ?_
 have hst := ot
 have c1 := aa.len lo b.classes
 have c2 := aA.len lo b.codes
 have c3 := az.len lo b.entries
 have z1 := hs.1.1
 have z2 := ok.ln
 have hfm := wv (k : Int) (qF (by omega))
 have zn := rQ (qF (n := k) (by omega))
 unfold aw.tw iL
 by_cases hm : (k : Int) = b.main
 ·rw [if_pos hm]
  repeat' (first | refine W_ ?_ | refine aD ?_ | refine c_ (fun hc => ?_) (fun hc => ?_) | refine g_ (fun hg => ?_) (fun hg => ?_))
  exact r1_
 rw [if_neg hm]
 repeat' (first | refine W_ ?_ | refine aD ?_ | refine c_ (fun hc => ?_) (fun hc => ?_) | refine g_ (fun hg => ?_) (fun hg => ?_))
 apply ak (X := Nat) [1, 2, 12, 13] (fun i => [(14, .int .i64 (i : Int))]) (fun _ => []) (fun i => i <= b.entries.length /\ mB b k b.entries = mB b k (b.entries.drop i)) (fun i => b.entries.length - i) 0 ⟨Nat.zero_le _, by rw [List.drop_zero]⟩
 ·exact kp_
 ·exact nw_
 ·exact .refl _
 rintro i ⟨hi, hE⟩
 try dsimp only
 by_cases hlt : i < b.entries.length
 ·have hrow := xg (lo := lo) hlt
  have hen := ok.en _ (List.getElem_mem hlt)
  have hnx := qq (b := b) (k := (k : Int)) hlt
  rw [hnx] at hE
  clear hnx
  obtain ⟨qo, hqo⟩ : ∃ q : Nat, b.entries[i].owner = q := ⟨b.entries[i].owner.toNat, by omega⟩
  have hql : qo < b.classes.length := by omega
  have hr2 := d8 (lo := lo) hql
  have hz := (ok.nm _ (List.getElem_mem hql)).2.1
  have hz2 := hen.2
  rw [hqo] at hrow
  rw [hqo, rg hql] at hE
  generalize b.entries[i] = e at hrow hE hz2
  generalize b.classes[qo] = c at hr2 hz hE
  by_cases he : e.code = (k : Int)
  ·rw [if_pos he] at hE
   rw [hE]
   repeat' (first | refine V_ ?_ | (refine aj ?_; intro ss bb) | refine ac ?_ | refine c_ (fun hc => ?_) (fun hc => ?_) | refine g_ (fun hg => ?_) (fun hg => ?_))
   exact r1_
  ·rw [if_neg he] at hE
   repeat' (first | refine W_ ?_ | (refine aj ?_; intro ss bb) | refine ac ?_ | refine c_ (fun hc => ?_) (fun hc => ?_) | refine g_ (fun hg => ?_) (fun hg => ?_))
   exact ag (i + 1) ⟨by omega, hE⟩ (by omega) (.of _ nw_ od_ pk_)
 ·rw [List.drop_eq_nil_of_le (by omega)] at hE
  have hE2 : mB b k b.entries = none := hE
  rw [hE2]
  have hrow := ux (lo := lo) hk
  rw [Int.toNat_natCast, List.getElem?_eq_getElem hk]
  dsimp only
  generalize b.codes[k] = x at hrow |-
  cases hB : x.block
  all_goals
    rw [hB] at hrow
    repeat' (first | refine W_ ?_ | refine ab hG hst (hfm) ?_ | refine c_ (fun hc => ?_) (fun hc => ?_) | refine g_ (fun hg => ?_) (fun hg => ?_))
    refine aE x_ rfl (.tmp _ _ rfl) (fun _ => ?_)
    exact qH rfl
theorem fK (lo : Nat) (m : ai) (hm : m.sane) (hsm : m.small 1048576) : CtM Tryz.prog GF 17 [.agg (m.tw lo)] [] (fun _ : Nat × Nat => True) (fun y => [(y.1, y.2, .row 1 (a8 (cu m)))]) (fun y => .ms y.1 y.2 0 (cu m).length) := by
 refine aC Tryz.func17 rfl Tryz.ntmps17 rfl rfl rfl fun w0 R gs objsR hG hR => ?_
 obtain rfl := hR.inv0
 clear hR
 have hst := ot
 have hfo := (mC lo m hsm).monoF (G2 := GF) fun _ h => h.1
 have hmem : ∀ i ∈ cK m, bX m = true /\ ∃ (q : Nat) (hq : q < m.contexts.length), i = q /\ m.contexts[q].mark = 0 := fun i hi => ⟨yQ hi, qj hi⟩
 have hfz := gN hsm
 have cl := ap.len lo m.contexts
 unfold cu
 generalize cK m = L at hfo hmem hfz |-
 have hll := ao L
 have hnm := wo lo m.base hsm.1
 have hpr := fun pok => lA lo m.store m.blocks.length pok hsm.2.1 3 0 rfl
 rw [show ((0 : Nat) : Int) = 0 from rfl] at hpr
 have cz := hsm.2.2.2.1.1
 unfold ai.tw at hfo |-
 unfold aw.tw at hnm
 unfold aJ.tw at hpr
 repeat' (first | refine W_ ?_ | refine aD ?_ | ((with_reducible apply o9 (n := 0)); rfl; rfl; kernel_rfl; kernel_rfl; rfl; kernel_rfl; rfl; rfl; rfl; rfl; intro ss bb) | ((with_reducible apply aG); rfl; kernel_rfl; (repeat (first | exact aF.nil | ((with_reducible apply aF.cons); rfl))); exact hG; exact hfo; exact .nil _; rintro ⟨sf, bf⟩ -; refine bm ?_) | refine c_ (fun hc => ?_) (fun hc => ?_) | refine g_ (fun hg => ?_) (fun hg => ?_))
 generalize ss = so; generalize bb = b0
 apply ak (X := Nat × Nat) [1, 9, 10, 1000000] (fun x => [(3, .ms so x.2 0 x.1), (11, .int .i64 (x.1 : Int))]) (fun x => (sf, bf, .row 1 (aS L)) :: (so, x.2, .row 1 (a8 ((L.take x.1).map (j8 m)))) :: R) (fun x => x.1 <= L.length) (fun x => L.length - x.1) (0, b0) (Nat.zero_le _)
 ·exact kp_
 ·exact nw_
 ·exact .refl _
 rintro ⟨k, b1⟩ hk
 dsimp only at hk |-
 by_cases hlt : k < L.length
 ·have hrw := gV hlt
  obtain ⟨hV, q, hq, hqe, hmk⟩ := hmem _ (List.getElem_mem hlt)
  obtain ⟨qc, hc1, hc2⟩ := agb hV hq hmk
  have nok := aaJ hV
  have pok := rE hV
  have hrow := cx (lo := lo) hq
  have hn2 := hnm nok qc hc2
  have hp2 := hpr pok _ (abW hV hq)
  have hps := jb pok (abW hV hq) 3
  have hpc : i64 m.contexts[q].pc := (hm.2.2.2.1 _ (List.getElem_mem hq)).2.2.1
  have hfm := wv _ hpc
  have znm := rQ hpc
  have zcn := nE nok hc2
  have hln : (a8 ((L.take k).map (j8 m))).length = k := by rw [aZ, List.length_map, List.length_take]; omega
  have hsn : (L.take (k + 1)).map (j8 m) = (L.take k).map (j8 m) ++ [iA m m.contexts[q]] := by rw [kO hlt, hqe, sD hq]
  have hfl : iA m m.contexts[q] = iL m.base qc ++ ⟨#[32, 97, 116, 32]⟩ ++ gn m.contexts[q].pc ++ ⟨#[32, 115, 101, 108, 102, 32]⟩ ++ aY m.store 3 m.contexts[q].self := by unfold iA; rw [hc1]
  rw [hqe] at hrw
  rw [hc1] at hrow
  rw [hfl] at hsn
  clear hfl hmk
  generalize (L.take k).map (j8 m) = M at hln hsn |-
  generalize iL m.base qc = CN at hn2 zcn hsn
  generalize aY m.store 3 m.contexts[q].self = PV at hp2 hps hsn
  generalize m.contexts[q] = c at hrow hp2 hfm znm hsn
  repeat' (first | refine W_ ?_ | (refine aj ?_; intro ss bb) | refine ac ?_ | ((with_reducible apply iU (id := 6) 19); kernel_rfl; kernel_rfl; kernel_rfl; (repeat (first | exact Cut.zero _ | apply Cut.succ))) | with_reducible refine fQ (by kernel_rfl) (by kernel_rfl) ?_ | with_reducible refine jz ?_ | with_reducible refine fV ?_ | with_reducible refine fS rfl ?_ | refine jB rfl rfl rfl rr_ ?_ | refine fU rfl rfl rfl rr_ rfl rfl rfl ?_ | refine eG rfl rfl rfl rr_ rfl rfl ?_ | (refine o8 rfl rfl rfl rr_ dd_ ?_) | (refine oU rfl rfl rfl rr_ dd_ ?_) | (refine dh rfl rfl rfl rr_ (fun hg => ?_) (fun hg => ?_)) | (refine cN rfl rfl rfl rr_ (fun hg => ?_) (fun hg => ?_)) | ((with_reducible apply d_y); exact y_; rfl) | refine aaO ?_ | ((with_reducible apply gD); rfl; rfl; kernel_rfl; kernel_rfl; kernel_rfl; rfl; (repeat (first | with_reducible exact mh | with_reducible refine mt ?_)); (repeat (first | exact .zero _ | apply eg.succ))) | ((with_reducible apply gG); rfl; rfl; kernel_rfl; kernel_rfl; kernel_rfl; rfl; (repeat (first | exact .zero _ | apply eg.succ))) | ((with_reducible apply gA); rfl; rfl; kernel_rfl; kernel_rfl; kernel_rfl; rfl; (repeat (first | with_reducible exact mh | with_reducible refine mt ?_)); (first | (with_reducible assumption) | (refine aM ?_; omega) | (refine ew ?_; simp only [List.length_set, List.length_map]; omega) | exact rfl | assumption); (repeat (first | exact .zero _ | apply eg.succ))) | refine ae hG hst (hfm) ?_ | refine ae hG hst (hn2) ?_ | refine ae hG hst (hp2) ?_ | ((with_reducible apply ck); rfl; rfl; rfl; kernel_rfl; (repeat (first | with_reducible exact mh | with_reducible refine mt ?_)); exact hln; exact (rfl : _ = 1); omega; exact aeA (e2 := CN ++ ⟨#[32, 97, 116, 32]⟩ ++ gn c.pc ++ ⟨#[32, 115, 101, 108, 102, 32]⟩ ++ PV) (by rfl); (intro bq; (repeat (first | with_reducible exact Upd.head _ | with_reducible apply Upd.tail))); intro bz) | refine c_ (fun hc => ?_) (fun hc => ?_) | refine g_ (fun hg => ?_) (fun hg => ?_))
  rw [<- hsn]
  exact ag (k + 1, bz) (by (try dsimp only); omega) (by (try dsimp only); omega) (.of _ nw_ od_ pk_)
 ·obtain rfl : k = L.length := by omega
  rw [List.take_length]
  repeat' (first | refine W_ ?_ | refine c_ (fun hc => ?_) (fun hc => ?_) | refine g_ (fun hg => ?_) (fun hg => ?_))
  have hml : L.length = (L.map (j8 m)).length := (List.length_map _).symm
  rw [hml]
  exact av x_ rfl (so, b1) trivial rfl (.cons _ _ _ _ (.nil R)) pk_ (.tmp _ _ rfl) rfl
theorem aah (l : List ByteArray) : ∀ y : Nat × Nat, True -> (∀ s b o, (s, b, o) ∈ [(y.1, y.2, bj.row 1 (a8 l))] -> kK [(y.1, y.2, bj.row 1 (a8 l))] o) /\ jk [(y.1, y.2, bj.row 1 (a8 l))] (.ms y.1 y.2 0 l.length) := fun y _ =>
 ⟨fun s b o h => by
   simp only [List.mem_singleton, Prod.mk.injEq] at h
   obtain ⟨_, _, rfl⟩ := h
   exact rJ (sB _), .ms _ _ _ _ _ _ List.mem_cons_self⟩
theorem ji (x : ai) (hs : x.sane) (hb : x.small 9223372036854775807) : Ct Tryz.prog GF 4 [.agg (x.tw 0)] (fun _ => .bool true) := by
 have hst := ot
 have hto := fun hx => nH hst 0 x hx
 have htw := fun hx => jY hst 0 x hx
 refine am Tryz.func4 rfl Tryz.ntmps4 rfl rfl fun w0 _ hG => ?_
 have hsp := fun hx => lg w0.heap.size x hs hx
 have him := fun (hx : x.small 1048576) => fK 0 x hs hx
 have him2 := fun (hx : x.small 1048576) => fK w0.heap.size x hs hx
 have heq := fun hx => pT hst 0 w0.heap.size x hx
 have hmk := fun (hx : x.small 1048576) y hy => kr hst x y hy hx 1 (by omega)
 have hsm := fun (hx : x.small 1048576) => lC hx
 have hvw : ∀ {objs : aH} {y : oO}, imI x y -> (∀ o ∈ imO x y, o ∈ objs) -> bU objs (.agg (imC x y)) (.agg (x.tw 0)) := fun h1 h2 => aaq h1 h2
 have hnk := fun hx => p9 (x := x) hx 1
 have hsz := qn hst 0 x 1048576 (by omega) hb
 generalize cu x = sels at hsp him him2 hsm
 have hnew := aah sels
 have hsl := aZ sels
 unfold ai.tw at hto htw hsp him him2 heq hvw hsz |-
 repeat' (first | refine H_ 3 ?_ | refine aD ?_ | ((with_reducible apply aG); rfl; kernel_rfl; (repeat (first | exact aF.nil | ((with_reducible apply aF.cons); rfl))); exact hG; exact hsz; exact .nil _; intro y hy; refine bD ?_) | refine c_ (fun hc => ?_) (fun hc => ?_) | refine g_ (fun hg => ?_) (fun hg => ?_))
 refine ⟨?_⟩
 by_cases hneg : y < 0
 ·repeat' (first | refine W_ ?_ | refine c_ (fun hc => ?_) (fun hc => ?_) | refine g_ (fun hg => ?_) (fun hg => ?_))
  exact r1_
 have hx := hy.2.2 (by omega)
 replace hto := hto hx
 replace htw := htw hx
 replace hsp := hsp hx
 replace him := him hx
 replace him2 := him2 hx
 replace heq := heq hx
 replace hnk := hnk hx
 replace hmk := hmk hx
 replace hsm := hsm hx
 have heqs := fun l1 l2 => kD (G := GF) l1 l2 sels (by omega)
 clear hb hy hsz
 repeat' (first | refine H_ 6 ?_ | refine ab hG hst (hto) ?_ | refine ab hG hst (hsp) ?_ | refine c_ (fun hc => ?_) (fun hc => ?_) | refine g_ (fun hg => ?_) (fun hg => ?_))
 refine ⟨?_⟩
 repeat' (first | refine H_ 7 ?_ | ((with_reducible apply aG); rfl; kernel_rfl; (repeat (first | exact aF.nil | ((with_reducible apply aF.cons); rfl))); exact hG; exact htw; exact .nil _; intro y hy) | (refine aj ?_; intro ss bb) | refine ac ?_ | refine c_ (fun hc => ?_) (fun hc => ?_) | refine g_ (fun hg => ?_) (fun hg => ?_))
 refine ⟨?_⟩
 generalize ss = s5; generalize bb = b5
 have hl1 := hmk y hy
 clear hmk
 unfold imC at hl1 hvw
 repeat' (first | refine H_ 8 ?_ | ((with_reducible apply dX); rfl; kernel_rfl; exact hG; exact hst; exact him; ((with_reducible apply ca.cons); rfl; exact hvw hy (fun o h => List.mem_cons_of_mem _ (List.mem_append_left _ h))); (repeat (first | exact ca.nil | ((with_reducible apply ca.cons); rfl; exact bU.same _))); exact hnew; rintro ⟨ss, bb⟩ -; refine bm ?_) | refine c_ (fun hc => ?_) (fun hc => ?_) | refine g_ (fun hg => ?_) (fun hg => ?_))
 refine ⟨?_⟩
 generalize ss = sg; generalize bb = bg
 repeat' (first | refine HV_ 13 ?_ | refine fO hG hst (heqs 0 w0.heap.size) ?_ | refine ae hG hst (hto) ?_ | ((with_reducible apply aaw); rfl; kernel_rfl; exact hG; exact hst; exact heq; (repeat (first | exact ca.nil | ((with_reducible apply ca.cons); rfl; (first | (with_reducible exact bU.same _) | exact hvw hy (fun o h => List.mem_cons_of_mem _ (List.mem_cons_of_mem _ (List.mem_append_left _ h)))))))) | refine c_ (fun hc => ?_) (fun hc => ?_) | refine g_ (fun hg => ?_) (fun hg => ?_))
 all_goals first
   | (exfalso; simp at hc; done)
   | skip
 refine ⟨?_⟩
 repeat' (first | refine W_ ?_ | refine c_ (fun hc => ?_) (fun hc => ?_) | refine g_ (fun hg => ?_) (fun hg => ?_))
 refine jM (ws (imO x y) _ _ []) ?_
 repeat' (first | refine HV_ 16 ?_ | ((with_reducible apply aG); rfl; kernel_rfl; (repeat (first | exact aF.nil | ((with_reducible apply aF.cons); rfl))); exact hG; exact hl1; exact .app _ _; rintro ⟨⟩ -; refine cI (kM _ _ _ _) ?_) | refine fO hG hst (heqs 0 w0.heap.size) ?_ | refine bW hG hst (heqs 0 w0.heap.size) ?_ | refine c_ (fun hc => ?_) (fun hc => ?_) | refine g_ (fun hg => ?_) (fun hg => ?_))
 all_goals first
   | (exfalso; simp at hc; done)
   | skip
 refine ⟨?_⟩
 have hmS := hH hst sg bg sels 1 (by omega) (by omega)
 have hhS := jx hst 0 sels 1 (by omega) (by omega)
 have hkS := jm (nx := aQ) (l := sels) (k := 1) (dN _)
 have hml : (a8 (mkL bM aQ 1 sels)).length = sels.length := by rw [aZ, da]
 generalize kL aQ 1 sels = kq at hmS hhS hkS
 generalize mkL bM aQ 1 sels = ms at hmS hhS hml
 repeat' (first | refine H_ 24 ?_ | ((with_reducible apply aG); rfl; kernel_rfl; (repeat (first | exact aF.nil | ((with_reducible apply aF.cons); rfl))); exact hG; exact hmS; exact .cons _ _ _ _ (.nil _); rintro ⟨⟩ -; refine bm ?_) | refine fO hG hst (hhS) ?_ | refine c_ (fun hc => ?_) (fun hc => ?_) | refine g_ (fun hg => ?_) (fun hg => ?_))
 all_goals first
   | (exfalso; simp at hc; done)
   | skip
 refine ⟨?_⟩
 repeat' (first | refine W_ ?_ | refine ab hG hst (hto) ?_ | ((with_reducible apply dX); rfl; kernel_rfl; exact hG; exact hst; exact him2; ((repeat (first | exact ca.nil | ((with_reducible apply ca.cons); rfl; (first | with_reducible exact bU.same _ | ((with_reducible apply bU.msAll); (repeat (first | with_reducible exact mh | with_reducible refine mt ?_)); (first | with_reducible assumption | exact aO _ | exact ao _ | exact aT _ | exact List.length_map _ | assumption | rfl)) | ((with_reducible apply dF); (repeat (first | with_reducible exact mh | with_reducible refine mt ?_)); (first | with_reducible assumption | exact aO _ | exact ao _ | exact aT _ | exact List.length_map _ | assumption | rfl)) | ((with_reducible apply bU.cut); exact bU.cp0 _ _; rfl)))))); exact hnew; rintro ⟨ss, bb⟩ -; refine bm ?_) | refine fO hG hst (heqs 0 w0.heap.size) ?_ | refine fO hG hst (hhS) ?_ | refine c_ (fun hc => ?_) (fun hc => ?_) | refine g_ (fun hg => ?_) (fun hg => ?_))
 all_goals first
   | (exact r1_)
   | (exfalso; simp at hc; done)
theorem eI (w : World) (t : PT) (x : ai) (hat : eH t x) (hsee : dM w (· < w.heap.size) t) (hx : x.sane) (hm : qs w) (ht : acX w) : Calls Tryz.prog 4 #[.agg t.cells.toArray] w fun e w' => e = .returned (.bool true) /\ Below w.heap.size w w' := by
 have h0 : 0 < w.heap.size := by
   obtain ⟨m, hm⟩ := hm
   have := World.block_lt_of_cell? w _ hm
   omega
 have hok := ab7 w _ _ hsee
 have hsm := nT hat hsee hx
 rw [sX hat] at hok
 refine (ji x hx hsm w _ h0 ⟨hm, ht⟩ rfl ?_).mono ?_
 ·intro i t v h1 h2
  match i, h1, h2 with
  | 0, h1, h2 =>
    cases h1; cases h2
    exact .agg _ _ hok.2.1 (by simpa using hok.1) (fun i t v ht hv => hok.2.2 i t v ht (by simpa using hv))
 ·rintro e w' ⟨v, rfl, hb, hr⟩
  have := (hr 0 (Nat.zero_le _)).bool_inv
  subst this
  exact ⟨rfl, hb⟩
end Go.Proofs.YtofnnnpahglfdaaGreatDoor
