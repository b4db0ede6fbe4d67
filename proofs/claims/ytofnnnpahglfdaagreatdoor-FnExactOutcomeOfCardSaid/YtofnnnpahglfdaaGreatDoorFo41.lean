/- Part 41 of the proof: the texts PrD. -/
import Derived.Test.YtofnnnpahglfdaaGreatDoorFo3
import Derived.Test.YtofnnnpahglfdaaGreatDoorFo39
import Derived.Test.YtofnnnpahglfdaaGreatDoorFo38
set_option linter.all false
set_option maxHeartbeats 4000000
set_option maxRecDepth 20000
namespace Go.Proofs.YtofnnnpahglfdaaGreatDoor
open Go Go.RowKit
theorem vA (t : ByteArray) : (gZ t).size <= 2 * t.size + 2 := by
 have h := lu t.data.toList
 rw [aP] at h
 show (List.toArray _).size <= _
 simp only [List.size_toArray, List.length_cons, List.length_append, List.length_nil]
 omega
theorem p0 (lo : Nat) (st : aJ) (nb : Int) (ok : acR st nb) (hs : st.small 1048576) (d q : Nat) (hd : q + d = 3) (ih : ∀ e : Nat, e + 1 = d -> ∀ v : ad, bI st nb v = true -> Ct Tryz.prog GF 64 [.agg (st.tw lo), .agg [.int .i64 v.kind, .int .i64 v.number, .str v.text], .int .i64 ((q + 1 : Nat) : Int)] (fun _ => .str (aY st e v))) (v : ad) (hv : bI st nb v = true) : Ct Tryz.prog GF 64 [.agg (st.tw lo), .agg [.int .i64 v.kind, .int .i64 v.number, .str v.text], .int .i64 (q : Int)] (fun _ => .str (aY st d v)) := by
 refine am Tryz.func64 rfl Tryz.ntmps64 rfl rfl fun w0 _ hG => ?_
 have hst := ot
 have c1 := aa.len lo st.classes
 have c2 := ay.len lo st.objects
 have z1 := hs.1.1
 have z2 := hs.2.1.1
 have hw := aa1 hv
 obtain ⟨kd, nm, tx⟩ := v
 dsimp only at hw |-
 unfold aJ.tw at ih |-
 rcases hw with h0 | ⟨h0, h1⟩ | ⟨h0, h1⟩ | ⟨h0, h1⟩ | ⟨h0, h1⟩ | ⟨h0, k, h1, h2⟩ | h0 | ⟨h0, k, h1, h2⟩
 all_goals (dsimp only at h0; subst h0)
 ·rw [bC d (show cP st ⟨0, nm, tx⟩ = some ⟨#[110, 105, 108]⟩ by unfold cP; dsimp only; rw [if_pos rfl])]
  repeat' (first | refine W_ ?_ | refine aD ?_ | refine c_ (fun hc => ?_) (fun hc => ?_) | refine g_ (fun hg => ?_) (fun hg => ?_))
  exact r1_
 ·dsimp only at h1
  rcases h1 with h1 | h1
  ·subst h1
   rw [bC d (show cP st ⟨1, 0, tx⟩ = some ⟨#[102, 97, 108, 115, 101]⟩ by unfold cP; dsimp only; rw [if_neg (by decide), if_pos rfl]; rfl)]
   repeat' (first | refine W_ ?_ | refine aD ?_ | refine cH ?_ | refine c_ (fun hc => ?_) (fun hc => ?_) | refine g_ (fun hg => ?_) (fun hg => ?_))
   exact r1_
  ·subst h1
   rw [bC d (show cP st ⟨1, 1, tx⟩ = some ⟨#[116, 114, 117, 101]⟩ by unfold cP; dsimp only; rw [if_neg (by decide), if_pos rfl]; rfl)]
   repeat' (first | refine W_ ?_ | refine aD ?_ | refine cH ?_ | refine c_ (fun hc => ?_) (fun hc => ?_) | refine g_ (fun hg => ?_) (fun hg => ?_))
   exact r1_
 ·dsimp only at h1
  have hfm := wv nm (by unfold i64; omega)
  rw [bC d (show cP st ⟨2, nm, tx⟩ = some (gn nm) by unfold cP; dsimp only; rw [if_neg (by decide), if_neg (by decide), if_pos rfl])]
  repeat' (first | refine W_ ?_ | refine aD ?_ | refine ab hG hst (hfm) ?_ | refine c_ (fun hc => ?_) (fun hc => ?_) | refine g_ (fun hg => ?_) (fun hg => ?_))
  exact r1_
 ·dsimp only at h1
  have htk := (y8 tx (by omega)).monoF (G2 := GF) fun _ h => h.1
  have hct := pM (G := GF) (gZ tx) (by have := vA tx; omega)
  rw [bC d (show cP st ⟨3, nm, tx⟩ = some (aby (gZ tx)) by unfold cP; dsimp only; rw [if_neg (by decide), if_neg (by decide), if_neg (by decide), if_pos rfl])]
  repeat' (first | refine W_ ?_ | refine aD ?_ | refine eW ?_ | refine ab hG hst (htk) ?_ | refine ab hG hst (hct) ?_ | refine c_ (fun hc => ?_) (fun hc => ?_) | refine g_ (fun hg => ?_) (fun hg => ?_))
  exact r1_
 ·dsimp only at h1
  rw [bC d (show cP st ⟨4, nm, tx⟩ = some (⟨#[35]⟩ ++ tx) by unfold cP; dsimp only; rw [if_neg (by decide), if_neg (by decide), if_neg (by decide), if_neg (by decide), if_pos rfl])]
  repeat' (first | refine W_ ?_ | refine aD ?_ | refine c_ (fun hc => ?_) (fun hc => ?_) | refine g_ (fun hg => ?_) (fun hg => ?_))
  exact r1_
 ·dsimp only at h1
  subst h1
  have hrow := d8 (lo := lo) h2
  rw [bC d (xv h2)]
  generalize st.classes[k] = c at hrow |-
  repeat' (first | refine V_ ?_ | refine aD ?_ | refine c_ (fun hc => ?_) (fun hc => ?_) | refine g_ (fun hg => ?_) (fun hg => ?_))
  exact r1_
 ·rw [bC d (show cP st ⟨7, nm, tx⟩ = some ⟨#[97, 32, 66, 108, 111, 99, 107]⟩ by unfold cP; dsimp only; rw [if_neg (by decide), if_neg (by decide), if_neg (by decide), if_neg (by decide), if_neg (by decide), if_neg (by decide), if_pos rfl])]
  repeat' (first | refine W_ ?_ | refine aD ?_ | refine c_ (fun hc => ?_) (fun hc => ?_) | refine g_ (fun hg => ?_) (fun hg => ?_))
  exact r1_
 ·dsimp only at h1
  subst h1
  have hrow := ld (lo := lo) h2
  have hlf := wH (t := tx) h2
  have hfl := zJ (t := tx) h2
  obtain ⟨q1, q2⟩ := ok.cl _ (List.getElem_mem h2)
  have q3 := ok.fd _ (List.getElem_mem h2)
  have q4 := ok.ar _ (List.getElem_mem h2)
  generalize st.objects[k] = o at hrow hlf hfl q1 q2 q3 q4
  by_cases hk : o.kind = 2
  ·rw [if_pos hk] at hlf
   have q5 := q4 hk
   cases d with
   | zero =>
     have hq3 : (q : Int) = 3 := by omega
     rw [pN hlf]
     repeat' (first | refine W_ ?_ | refine aD ?_ | (refine aj ?_; intro ss bb) | refine ac ?_ | refine c_ (fun hc => ?_) (fun hc => ?_) | refine g_ (fun hg => ?_) (fun hg => ?_))
     exact r1_
   | succ e =>
     have hq3 : ¬ (q : Int) = 3 := by omega
     rw [ui e hlf, hfl]
     have ihe := ih e rfl
     have hfc := ad.len lo o.fields
     repeat' (first | refine W_ ?_ | refine aD ?_ | (refine aj ?_; intro ss bb) | refine ac ?_ | ((with_reducible apply o9 (n := 0)); rfl; rfl; kernel_rfl; kernel_rfl; rfl; kernel_rfl; rfl; rfl; rfl; rfl; intro ss bb) | refine c_ (fun hc => ?_) (fun hc => ?_) | refine g_ (fun hg => ?_) (fun hg => ?_))
     rename_i s7 b7
     generalize ss = so; generalize bb = b0
     apply ak (X := Nat × Nat) [2, 3, 7, 64, 65] (fun x => [(8, .ms so x.2 0 x.1), (66, .int .i64 (x.1 : Int))]) (fun x => [(so, x.2, .row 1 (a8 ((o.fields.take x.1).map (aY st e)))), (s7, b7, .box [.int .i64 o.kind, .int .i64 o.class_, .sl lo 3 (o.fields.map (ad.tw lo)), .sl lo 1 (aS o.numbers)])]) (fun x => x.1 <= o.fields.length) (fun x => o.fields.length - x.1) (0, b0) (Nat.zero_le _)
     ·exact kp_
     ·exact nw_
     ·exact .refl _
     rintro ⟨j, b1⟩ hj
     dsimp only at hj |-
     by_cases hjl : j < o.fields.length
     ·have hr3 := gO (lo := lo) hjl
      have hpr := ihe _ (q3 _ (List.getElem_mem hjl))
      have hln : (a8 ((o.fields.take j).map (aY st e))).length = j := by rw [aZ, List.length_map, List.length_take]; omega
      have hsn : (o.fields.take (j + 1)).map (aY st e) = (o.fields.take j).map (aY st e) ++ [aY st e o.fields[j]] := kO hjl
      generalize (o.fields.take j).map (aY st e) = L at hln hsn |-
      generalize o.fields[j] = w at hr3 hpr hsn
      repeat' (first | refine W_ ?_ | (refine aj ?_; intro ss bb) | refine ac ?_ | refine ab hG hst (hpr) ?_ | refine cH ?_ | ((with_reducible apply ck); rfl; rfl; rfl; kernel_rfl; (repeat (first | with_reducible exact mh | with_reducible refine mt ?_)); exact hln; exact (rfl : _ = 1); omega; exact nI _ _; (intro bq; (repeat (first | with_reducible exact Upd.head _ | with_reducible apply Upd.tail))); intro bz) | refine c_ (fun hc => ?_) (fun hc => ?_) | refine g_ (fun hg => ?_) (fun hg => ?_))
      rw [<- hsn]
      exact ag (j + 1, bz) (by (try dsimp only); omega) (by (try dsimp only); omega) (.of _ nw_ od_ pk_)
     ·obtain rfl : j = o.fields.length := by omega
      rw [List.take_length]
      have hxl : (o.fields.map (aY st e)).length = o.fields.length := List.length_map _
      have hxs : ∀ x ∈ o.fields.map (aY st e), ByteArray.size x <= 300 := fun x hx => by
        obtain ⟨w, hw, rfl⟩ := List.mem_map.1 hx
        exact jb ok (q3 w hw) e
      have hln : (a8 (o.fields.map (aY st e))).length = o.fields.length := by rw [aZ]; exact hxl
      have hjl2 := fun k hk => mN (sep := spB) (by decide) hxs k hk
      have hjn := yy (G := GF) (o.fields.map (aY st e)) (by omega) (fun x hx => by have := hxs x hx; omega)
      have hjz := hjl2 _ (Nat.le_refl _)
      rw [<- p8, hxl, Nat.mul_comm] at hjz
      have hsz : (⟨#[40]⟩ ++ jH (o.fields.map (aY st e)) spB ++ ⟨#[41]⟩).size <= 9223372036854775807 := by simp only [ByteArray.size_append, sJ, List.size_toArray, List.length_cons, List.length_nil]; omega
      unfold aeu
      have hct := pM (G := GF) (⟨#[40]⟩ ++ jH (o.fields.map (aY st e)) spB ++ ⟨#[41]⟩) hsz
      generalize jH (o.fields.map (aY st e)) spB = J at hjn hjz hct hsz |-
      generalize o.fields.map (aY st e) = xs at hln hxl hjn |-
      repeat' (first | refine W_ ?_ | refine fO hG hst (hjn) ?_ | refine ab hG hst (hct) ?_ | refine c_ (fun hc => ?_) (fun hc => ?_) | refine g_ (fun hg => ?_) (fun hg => ?_))
      exact r1_
  ·rw [if_neg hk] at hlf
   obtain ⟨qc, hq⟩ : ∃ q : Nat, o.class_ = q := ⟨o.class_.toNat, by omega⟩
   have hql : qc < st.classes.length := by omega
   rw [hq, iB hql] at hlf
   have hr2 := d8 (lo := lo) hql
   have hart := vl (G := GF) st.classes[qc].name (ok.nm _ (List.getElem_mem hql))
   have hnz := (ok.nm _ (List.getElem_mem hql)).1
   have hnz2 := (ok.nm _ (List.getElem_mem hql)).2.1
   have hbt := qh st.classes[qc].name 0
   have hwr : IntKind.i32.wrap (bat st.classes[qc].name 0) = bat st.classes[qc].name 0 := IntWalk.i32_in _ (by omega)
   rw [bC d hlf]
   rw [hq] at hrow
   generalize st.classes[qc] = c at hr2 hart hnz hnz2 hbt hwr |-
   unfold adF
   cases hV : wm c.name
   all_goals
     rw [hV] at hart
     repeat' (first | refine W_ ?_ | refine aD ?_ | (refine aj ?_; intro ss bb) | refine ac ?_ | refine ab hG hst (hart) ?_ | refine c_ (fun hc => ?_) (fun hc => ?_) | refine g_ (fun hg => ?_) (fun hg => ?_))
     exact r1_
theorem lA (lo : Nat) (st : aJ) (nb : Int) (ok : acR st nb) (hs : st.small 1048576) : ∀ d q : Nat, q + d = 3 -> ∀ v : ad, bI st nb v = true -> Ct Tryz.prog GF 64 [.agg (st.tw lo), .agg [.int .i64 v.kind, .int .i64 v.number, .str v.text], .int .i64 (q : Int)] (fun _ => .str (aY st d v))
 | 0, q, hd, v, hv => p0 lo st nb ok hs 0 q hd (fun e he => by omega) v hv
 | d + 1, q, hd, v, hv => p0 lo st nb ok hs (d + 1) q hd (fun e he => by
     obtain rfl : e = d := by omega
     exact lA lo st nb ok hs e (q + 1) (by omega)) v hv
end Go.Proofs.YtofnnnpahglfdaaGreatDoor
