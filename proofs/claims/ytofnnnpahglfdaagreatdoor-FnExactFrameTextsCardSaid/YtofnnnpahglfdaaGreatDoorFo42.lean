/- Part 42 of the proof: the texts FtA. -/
import Derived.Test.YtofnnnpahglfdaaGreatDoorFo3
import Derived.Test.YtofnnnpahglfdaaGreatDoorFo39
import Derived.Test.YtofnnnpahglfdaaGreatDoorFo38
import Derived.Test.YtofnnnpahglfdaaGreatDoorFo40
set_option linter.all false
set_option maxHeartbeats 4000000
set_option maxRecDepth 20000
namespace Go.Proofs.YtofnnnpahglfdaaGreatDoor
open Go Go.RowKit
theorem za (f lo : Nat) (b : aw) (hs : b.small 1048576) (ok : aeS b) (k : Nat) (hk : k < b.codes.length) : Ct Tryz.prog GF 58 [.cp f (b.tw lo), .int .i64 (k : Int)] (fun _ => .str (iL b (k : Int))) := by
 refine am Tryz.func58 rfl Tryz.ntmps58 rfl rfl fun w0 _ hG => ?_
 have hst := ot
 have c1 := aa.len lo b.classes
 have c2 := aA.len lo b.codes
 have c3 := az.len lo b.entries
 have z1 := hs.1.1
 have z2 := ok.ln
 have hfm := xq (G := GF) (k : Int) (qF (by omega))
 have zn := rQ (qF (n := k) (by omega))
 unfold aw.tw iL
 by_cases hm : (k : Int) = b.main
 ·rw [if_pos hm]
  repeat' (first | refine W_ ?_ | refine aD ?_ | refine c_ (fun hc => ?_) (fun hc => ?_) | refine g_ (fun hg => ?_) (fun hg => ?_))
  exact r1_
 rw [if_neg hm]
 repeat' (first | refine W_ ?_ | refine aD ?_ | refine c_ (fun hc => ?_) (fun hc => ?_) | refine g_ (fun hg => ?_) (fun hg => ?_))
 apply ak (X := Nat) [0, 1] (fun i => [(5, .int .i64 (i : Int))]) (fun _ => []) (fun i => i <= b.entries.length /\ mB b k b.entries = mB b k (b.entries.drop i)) (fun i => b.entries.length - i) 0 ⟨Nat.zero_le _, by rw [List.drop_zero]⟩
 ·exact kp_
 ·exact nw_
 ·exact .refl _
 rintro i ⟨hi, hE⟩
 try dsimp only
 by_cases hlt : i < b.entries.length
 ·have hrow := xg (lo := lo) hlt
  have hen := ok.en _ (List.getElem_mem hlt)
  have hnx := qq (b := b) (k := (k : Int)) hlt
  rw [hnx] at hE
  clear hnx
  obtain ⟨qo, hqo⟩ : ∃ q : Nat, b.entries[i].owner = q := ⟨b.entries[i].owner.toNat, by omega⟩
  have hql : qo < b.classes.length := by omega
  have hr2 := d8 (lo := lo) hql
  have hz := (ok.nm _ (List.getElem_mem hql)).2.1
  have hz2 := hen.2
  rw [hqo] at hrow
  rw [hqo, rg hql] at hE
  generalize b.entries[i] = e at hrow hE hz2
  generalize b.classes[qo] = c at hr2 hz hE
  by_cases he : e.code = (k : Int)
  ·rw [if_pos he] at hE
   rw [hE]
   repeat' (first | refine V_ ?_ | (refine aj ?_; intro ss bb) | refine ac ?_ | refine c_ (fun hc => ?_) (fun hc => ?_) | refine g_ (fun hg => ?_) (fun hg => ?_))
   exact r1_
  ·rw [if_neg he] at hE
   repeat' (first | refine W_ ?_ | (refine aj ?_; intro ss bb) | refine ac ?_ | refine c_ (fun hc => ?_) (fun hc => ?_) | refine g_ (fun hg => ?_) (fun hg => ?_))
   exact ag (i + 1) ⟨by omega, hE⟩ (by omega) (.of _ nw_ od_ pk_)
 ·rw [List.drop_eq_nil_of_le (by omega)] at hE
  have hE2 : mB b k b.entries = none := hE
  rw [hE2]
  have hrow := ux (lo := lo) hk
  rw [Int.toNat_natCast, List.getElem?_eq_getElem hk]
  dsimp only
  generalize b.codes[k] = x at hrow |-
  cases hB : x.block
  all_goals
    rw [hB] at hrow
    repeat' (first | refine W_ ?_ | refine ab hG hst (hfm) ?_ | refine c_ (fun hc => ?_) (fun hc => ?_) | refine g_ (fun hg => ?_) (fun hg => ?_))
    refine aE x_ rfl (.tmp _ _ rfl) (fun _ => ?_)
    exact qH rfl
theorem lg (lo : Nat) (m : ai) (hm : m.sane) (hsm : m.small 1048576) : Ct Tryz.prog GF 16 [.agg (m.tw lo)] (fun K => .sl K 1 (a8 (cu m))) := by
 refine am Tryz.func16 rfl Tryz.ntmps16 rfl rfl fun w0 _ hG => ?_
 have hst := ot
 have hct := (j5 w0.heap.size lo m hsm).monoF (G2 := GF) fun _ h => h.1
 by_cases hVs : bX m = true /\ m.status = 0
 ·obtain ⟨hV, h0⟩ := hVs
  rw [hV] at hct
  have h0' : ¬ m.status ≠ 0 := fun h => h h0
  obtain ⟨hs, n, p, hn, _, hp, ha, h1, h2⟩ := rl hV
  have hfR : cK m = dc m p.at_ := by unfold cK; rw [if_pos ⟨hV, h0⟩, ha]
  have hfr := tk (G := GF) w0.heap.size lo m hsm hs n hn p hp ⟨h1, h2⟩
  rw [<- hfR] at hfr
  have hmem : ∀ i ∈ cK m, ∃ (q : Nat) (hq : q < m.contexts.length), i = q /\ m.contexts[q].mark = 0 := fun i hi => qj hi
  have hfz := gN hsm
  have cl := ap.len lo m.contexts
  unfold cu
  generalize cK m = L at hfr hmem hfz |-
  have hll := ao L
  have nok := aaJ hV
  have pok := rE hV
  have hnm := za 0 lo m.base hsm.1 nok
  have hpr := ly (G := GF) hst 0 lo m.store m.blocks.length pok hsm.2.1 3 (by omega)
  rw [show ((3 : Nat) : Int) = 3 from rfl] at hpr
  have cz := hsm.2.2.2.1.1
  unfold ai.tw at hct hfr |-
  unfold aw.tw at hnm
  unfold aJ.tw at hpr
  repeat' (first | refine W_ ?_ | refine aD ?_ | ((with_reducible apply o9 (n := 0)); rfl; rfl; kernel_rfl; kernel_rfl; rfl; kernel_rfl; rfl; rfl; rfl; rfl; intro ss bb) | refine ab hG hst (hct) ?_ | refine ab hG hst (hfr) ?_ | refine c_ (fun hc => ?_) (fun hc => ?_) | refine g_ (fun hg => ?_) (fun hg => ?_))
  generalize ss = so; generalize bb = b0
  apply ak (X := Nat × Nat) [1, 4] (fun x => [(3, .ms so x.2 0 x.1), (5, .int .i64 (x.1 : Int))]) (fun x => [(so, x.2, .row 1 (a8 ((L.take x.1).map (j8 m))))]) (fun x => x.1 <= L.length) (fun x => L.length - x.1) (0, b0) (Nat.zero_le _)
  ·exact kp_
  ·exact nw_
  ·exact .refl _
  rintro ⟨k, b1⟩ hk
  dsimp only at hk |-
  by_cases hlt : k < L.length
  ·have hrw := gV hlt
   obtain ⟨q, hq, hqe, hmk⟩ := hmem _ (List.getElem_mem hlt)
   obtain ⟨qc, hc1, hc2⟩ := agb hV hq hmk
   have hrow := cx (lo := lo) hq
   have hn2 := hnm qc hc2
   have hp2 := hpr _ (abW hV hq)
   have hps := jb pok (abW hV hq) 3
   have hpc : i64 m.contexts[q].pc := (hm.2.2.2.1 _ (List.getElem_mem hq)).2.2.1
   have hfm := xq (G := GF) _ hpc
   have znm := rQ hpc
   have zcn := nE nok hc2
   have hln : (a8 ((L.take k).map (j8 m))).length = k := by rw [aZ, List.length_map, List.length_take]; omega
   have hsn : (L.take (k + 1)).map (j8 m) = (L.take k).map (j8 m) ++ [iA m m.contexts[q]] := by rw [kO hlt, hqe, sD hq]
   have hfl : iA m m.contexts[q] = iL m.base qc ++ ⟨#[32, 97, 116, 32]⟩ ++ gn m.contexts[q].pc ++ ⟨#[32, 115, 101, 108, 102, 32]⟩ ++ aY m.store 3 m.contexts[q].self := by unfold iA; rw [hc1]
   rw [hqe] at hrw
   rw [hc1] at hrow
   rw [hfl] at hsn
   clear hfl hmk
   generalize (L.take k).map (j8 m) = M at hln hsn |-
   generalize iL m.base qc = CN at hn2 zcn hsn
   generalize aY m.store 3 m.contexts[q].self = PV at hp2 hps hsn
   generalize m.contexts[q] = c at hrow hp2 hfm znm hsn
   repeat' (first | refine W_ ?_ | ((with_reducible apply i7 (id := 8) 8); kernel_rfl; kernel_rfl; kernel_rfl; (repeat (first | exact Cut.zero _ | apply Cut.succ)); rfl; rfl; rfl; rfl; rfl; kernel_rfl; rfl) | ((with_reducible apply u_y); exact yu_; rfl) | (with_reducible refine qk ?_; intro ss bb) | (refine aj ?_; intro ss bb) | refine ac ?_ | ((with_reducible apply iU (id := 9) 17); kernel_rfl; kernel_rfl; kernel_rfl; (repeat (first | exact Cut.zero _ | apply Cut.succ))) | with_reducible refine fQ (by kernel_rfl) (by kernel_rfl) ?_ | with_reducible refine jz ?_ | with_reducible refine fV ?_ | with_reducible refine fS rfl ?_ | refine jB rfl rfl rfl rr_ ?_ | refine fU rfl rfl rfl rr_ rfl rfl rfl ?_ | refine eG rfl rfl rfl rr_ rfl rfl ?_ | (refine o8 rfl rfl rfl rr_ dd_ ?_) | (refine oU rfl rfl rfl rr_ dd_ ?_) | (refine dh rfl rfl rfl rr_ (fun hg => ?_) (fun hg => ?_)) | (refine cN rfl rfl rfl rr_ (fun hg => ?_) (fun hg => ?_)) | ((with_reducible apply d_y); exact y_; rfl) | refine aaO ?_ | ((with_reducible apply gD); rfl; rfl; kernel_rfl; kernel_rfl; kernel_rfl; rfl; (repeat (first | with_reducible exact mh | with_reducible refine mt ?_)); (repeat (first | exact .zero _ | apply eg.succ))) | ((with_reducible apply gG); rfl; rfl; kernel_rfl; kernel_rfl; kernel_rfl; rfl; (repeat (first | exact .zero _ | apply eg.succ))) | ((with_reducible apply gA); rfl; rfl; kernel_rfl; kernel_rfl; kernel_rfl; rfl; (repeat (first | with_reducible exact mh | with_reducible refine mt ?_)); (first | (with_reducible assumption) | (refine aM ?_; omega) | (refine ew ?_; simp only [List.length_set, List.length_map]; omega) | exact rfl | assumption); (repeat (first | exact .zero _ | apply eg.succ))) | refine ae hG hst (hfm) ?_ | refine bW hG hst (hn2) ?_ | refine bW hG hst (hp2) ?_ | ((with_reducible apply ck); rfl; rfl; rfl; kernel_rfl; (repeat (first | with_reducible exact mh | with_reducible refine mt ?_)); exact hln; exact (rfl : _ = 1); omega; exact aeA (e2 := CN ++ ⟨#[32, 97, 116, 32]⟩ ++ gn c.pc ++ ⟨#[32, 115, 101, 108, 102, 32]⟩ ++ PV) (by rfl); (intro bq; (repeat (first | with_reducible exact Upd.head _ | with_reducible apply Upd.tail))); intro bz) | refine c_ (fun hc => ?_) (fun hc => ?_) | refine g_ (fun hg => ?_) (fun hg => ?_))
   rw [<- hsn]
   exact ag (k + 1, bz) (by (try dsimp only); omega) (by (try dsimp only); omega) (.of _ nw_ od_ pk_)
  ·obtain rfl : k = L.length := by omega
   rw [List.take_length]
   repeat' (first | refine W_ ?_ | refine c_ (fun hc => ?_) (fun hc => ?_) | refine g_ (fun hg => ?_) (fun hg => ?_))
   refine aE x_ rfl (.tmp _ _ rfl) (fun _ => ?_)
   exact ku (by simp) List.mem_cons_self
 ·have hR0 : cu m = [] := by unfold cu cK; rw [if_neg hVs]; rfl
  rw [hR0]
  cases hV : bX m with
  | false =>
    rw [hV] at hct
    unfold ai.tw at hct |-
    repeat' (first | refine W_ ?_ | refine aD ?_ | ((with_reducible apply o9 (n := 0)); rfl; rfl; kernel_rfl; kernel_rfl; rfl; kernel_rfl; rfl; rfl; rfl; rfl; intro ss bb) | refine ab hG hst (hct) ?_ | refine c_ (fun hc => ?_) (fun hc => ?_) | refine g_ (fun hg => ?_) (fun hg => ?_))
    refine aE x_ rfl (.tmp _ _ rfl) (fun _ => ?_)
    exact ku rfl List.mem_cons_self
  | true =>
    have h0 : ¬ m.status = 0 := fun h => hVs ⟨hV, h⟩
    rw [hV] at hct
    unfold ai.tw at hct |-
    repeat' (first | refine W_ ?_ | refine aD ?_ | ((with_reducible apply o9 (n := 0)); rfl; rfl; kernel_rfl; kernel_rfl; rfl; kernel_rfl; rfl; rfl; rfl; rfl; intro ss bb) | refine ab hG hst (hct) ?_ | refine c_ (fun hc => ?_) (fun hc => ?_) | refine g_ (fun hg => ?_) (fun hg => ?_))
    refine aE x_ rfl (.tmp _ _ rfl) (fun _ => ?_)
    exact ku rfl List.mem_cons_self
end Go.Proofs.YtofnnnpahglfdaaGreatDoor
