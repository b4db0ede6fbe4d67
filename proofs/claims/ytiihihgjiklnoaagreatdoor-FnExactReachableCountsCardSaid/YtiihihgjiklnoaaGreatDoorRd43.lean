/- Part 43 of the proof. -/
import Derived.Test.YtiihihgjiklnoaaGreatDoorRd42
import Derived.Test.YtiihihgjiklnoaaGreatDoorRd3
set_option maxHeartbeats 4000000
set_option maxRecDepth 20000
namespace Go.Proofs.YtiihihgjiklnoaaGreatDoor
open Go Go.RowKit
section
variable {G : World -> Prop} {s b f lo : Nat} {m : ag} {q : Rp}
theorem rcH (hst : ay G) (hN : rE m) (hsm : m.small 1048576) (n : Nat) : RcH G s b f lo m q n := by
 induction n using Nat.strongRecOn with
 | _ n ih => exact ⟨fun v hv hr => vQ hst hN hsm n ih v hv hr, fun l hl hv hr => yf hst hN hsm n ih l hl hv hr, fun k h0 h1 hr => wN hst hN hsm n ih k h0 h1 hr, fun k hk hr => wU hst hN hsm n ih k hk hr⟩
end
section
variable {G : World -> Prop}
def n9 (l : List Bool) : Nat := (l.filter id).length
theorem o9 (l : List Bool) (x : Bool) : n9 (l ++ [x]) = n9 l + (if x = true then 1 else 0) := by
 cases x <;> simp [n9, List.filter_append]
theorem xa (l : List Bool) : n9 l <= l.length := List.length_filter_le _ _
end
section
variable {G : World -> Prop}
end
section
variable {G : World -> Prop}
theorem oY (_hst : ay G) (lo : Nat) (l : List Bool) (hl : l.length <= 1048576) : Ct Tryz.prog G 94 [.sl lo 1 (bR l)] (fun _ => .int .i64 (n9 l : Int)) := by
 refine ak Tryz.func94 rfl Tryz.ntmps94 rfl rfl fun w0 _ hG => ?_
 have hbl := eg l
 repeat' refine W_ ?_
 apply am (X := Nat) [0, 6, 7] (fun y => [(8, .int .i64 (y : Int)), (3, .int .i64 (n9 (l.take y) : Int))])
   (fun _ => []) (fun y => y <= l.length) (fun y => l.length - y) 0 (Nat.zero_le _)
 exact kp_; exact nw_
 ·exact .refl _
 intro i hi
 try dsimp only
 have hci := xa (l.take i)
 have hti : (l.take i).length <= i := by rw [List.length_take]; omega
 by_cases hlt : i < l.length
 ·have hgi : (bR l)[i]? = some [TV.bool l[i]] := hY hlt
  have htk : l.take (i + 1) = l.take i ++ [l[i]] := (List.take_append_getElem hlt).symm
  generalize l[i] = x at hgi htk
  have hcs := o9 (l.take i) x
  rw [<- htk] at hcs
  cases x with
  | true =>
    have hcs2 : n9 (l.take (i + 1)) = n9 (l.take i) + 1 := by simpa using hcs
    clear htk hcs
    repeat' refine W_ ?_
    refine ah (i + 1) (by omega) (by omega) (.of _ nw_ od_ (.refl _))
  | false =>
    have hcs2 : n9 (l.take (i + 1)) = n9 (l.take i) := by simpa using hcs
    clear htk hcs
    repeat' refine W_ ?_
    refine ah (i + 1) (by omega) (by omega) (.of _ nw_ od_ (.refl _))
 ·obtain rfl : i = l.length := by omega
  rw [List.take_of_length_le (Nat.le_refl _)]
  repeat' refine W_ ?_
  exact r1_
end
section
variable {G : World -> Prop}
theorem wz (_hst : ay G) (lo : Nat) (l : List Bool) (hl : l.length <= 1048576) : Ct Tryz.prog G 85 [.sl lo 1 (bR l)] (fun _ => .int .i64 (n9 l : Int)) := by
 refine ak Tryz.func85 rfl Tryz.ntmps85 rfl rfl fun w0 _ hG => ?_
 have hbl := eg l
 repeat' refine W_ ?_
 apply am (X := Nat) [0] (fun y => [(4, .int .i64 (y : Int)), (3, .int .i64 (n9 (l.take y) : Int))])
   (fun _ => []) (fun y => y <= l.length) (fun y => l.length - y) 0 (Nat.zero_le _)
 exact kp_; exact nw_
 ·exact .refl _
 intro i hi
 try dsimp only
 have hci := xa (l.take i)
 have hti : (l.take i).length <= i := by rw [List.length_take]; omega
 by_cases hlt : i < l.length
 ·have hgi : (bR l)[i]? = some [TV.bool l[i]] := hY hlt
  have htk : l.take (i + 1) = l.take i ++ [l[i]] := (List.take_append_getElem hlt).symm
  generalize l[i] = x at hgi htk
  have hcs := o9 (l.take i) x
  rw [<- htk] at hcs
  cases x with
  | true =>
    have hcs2 : n9 (l.take (i + 1)) = n9 (l.take i) + 1 := by simpa using hcs
    clear htk hcs
    repeat' refine W_ ?_
    refine ah (i + 1) (by omega) (by omega) (.of _ nw_ od_ (.refl _))
  | false =>
    have hcs2 : n9 (l.take (i + 1)) = n9 (l.take i) := by simpa using hcs
    clear htk hcs
    repeat' refine W_ ?_
    refine ah (i + 1) (by omega) (by omega) (.of _ nw_ od_ (.refl _))
 ·obtain rfl : i = l.length := by omega
  rw [List.take_of_length_le (Nat.le_refl _)]
  repeat' refine W_ ?_
  exact r1_
end
open Classical in
noncomputable def bu (m : ag) : Mk4 := if h : ∃ t, wT m t then Classical.choose h else fr m
theorem wT.marks {m : ag} {t : Mk4} (h : wT m t) : t = bu m := by
 have he : ∃ t, wT m t := ⟨t, h⟩
 unfold bu
 rw [dif_pos he]
 exact h.eq (Classical.choose_spec he)
theorem y0 (n : Nat) : bR (List.replicate n false) = List.replicate n [TV.bool false] := by simp [bR]
theorem xz (x e p c b o : Nat × Nat × bj) (R : aK) : dp (x :: o :: b :: c :: p :: e :: R) (x :: e :: p :: c :: b :: o :: R) := .perm (by
 have h := ko (n := 7) [[x], [o], [b], [c], [p], [e], R] [0, 5, 4, 3, 2, 1, 6] rfl (by decide)
 simpa using h.symm)
section
variable {G : World -> Prop} {f lo : Nat} {m : ag}
theorem uk (hst : ay G) (hN : rE m) (hsm : m.small 1048576) : CtM Tryz.prog G 84 [.cp f (m.tw lo)] [] (fun _ : Rp × (Nat × Nat) × List ab => wT m (bu m))
   (fun y => [(y.1.1.1, y.1.1.2, .row 1 (bR (bu m).o)), (y.1.2.1.1, y.1.2.1.2, .row 1 (bR (bu m).b)), (y.1.2.2.1.1, y.1.2.2.1.2, .row 1 (bR (bu m).c)), (y.1.2.2.2.1, y.1.2.2.2.2, .row 1 (bR (bu m).p)), (y.2.1.1, y.2.1.2, .row 3 (y.2.2.map (ab.tw 0)))])
   (fun y => .agg [.ms y.1.1.1 y.1.1.2 0 (bu m).o.length, .ms y.1.2.1.1 y.1.2.1.2 0 (bu m).b.length, .ms y.1.2.2.1.1 y.1.2.2.1.2 0 (bu m).c.length, .ms y.1.2.2.2.1 y.1.2.2.2.2 0 (bu m).p.length, .ms y.2.1.1 y.2.1.2 0 y.2.2.length]) := by
 refine aJ Tryz.func84 rfl Tryz.ntmps84 rfl rfl rfl fun w0 R gs objsR hG hR => ?_
 obtain rfl := hR.inv0
 clear hR
 have x1 := hsm.2.1.2.1.1
 have x2 := hsm.2.2.1.1
 have x3 := hsm.2.2.2.1.1
 have x4 := hsm.2.2.2.2.1.1
 have x5 := hsm.2.2.2.2.2.1
 have y1 := ar.len lo m.store.objects
 have y2 := aq.len lo m.blocks
 have y3 := ao.len lo m.contexts
 have y4 := av.len lo m.processes
 have y5 := ap m.ready
 unfold ag.tw
 repeat' (first | refine W_ ?_ | (refine aj ?_; intro ss bb) | ((with_reducible apply kv (id := 1) 27); kernel_rfl; kernel_rfl; kernel_rfl; rfl; (repeat (first | exact Cut.zero _ | apply Cut.succ))) | ((with_reducible apply m_q); exact ym_; rfl; exact mS) | ((with_reducible apply gq); rfl; (intro p; try dsimp only); (repeat (first | exact TB.nil _ | ((with_reducible apply TB.cons); rfl; rfl; (first | exact .nil _ | exact .put _ _ _ _ _ (.nil _) | exact .skip _ _ _ _ _ (.put _ _ _ _ _ (.nil _)) | exact .skip _ _ _ _ _ (.skip _ _ _ _ _ (.put _ _ _ _ _ (.nil _))) | (repeat (first | exact .nil _ | apply bH.put | apply bH.skip))); kernel_rfl))); rfl; kernel_rfl; kernel_rfl; exact mS) | ((with_reducible apply qQ); rfl; rfl; kernel_rfl) | ((with_reducible apply yO); (intro p; rfl); rfl; rfl; exact rfl; kernel_rfl; kernel_rfl; rfl; rfl; kernel_rfl; omega) | (with_reducible refine DM.nil _ _ _ ?_))
 generalize ss = s2; generalize bb = b2
 intro p hp
 refine aR (objs' := ((p 26).a, (p 26).b, .box [.nils, .nils, .nils, .nils, .nils]) :: ((p 24).a, (p 24).b, .row 1 (List.replicate m.processes.length [.bool false])) :: ((p 18).a, (p 18).b, .row 1 (List.replicate m.contexts.length [.bool false])) :: ((p 12).a, (p 12).b, .row 1 (List.replicate m.blocks.length [.bool false])) :: ((p 6).a, (p 6).b, .row 1 (List.replicate m.store.objects.length [.bool false])) :: (s2, b2, .box [.nils, .nils, .nils, .nils, .nils]) :: R) (by rw [show iY _ = [_, _, _, _, _] from rfl]; simp only [List.flatMap_cons, List.flatMap_nil, List.append_nil, List.cons_append, List.nil_append]; rfl) ?_
 dsimp only [Nat.reduceAdd]
 obtain ⟨q, hq⟩ : ∃ q : Rp, q = (((p 6).a, (p 6).b), ((p 12).a, (p 12).b), ((p 18).a, (p 18).b), ((p 24).a, (p 24).b)) := ⟨_, rfl⟩
 rw [show (p 6).a = q.1.1 by rw [hq], show (p 6).b = q.1.2 by rw [hq], show (p 12).a = q.2.1.1 by rw [hq], show (p 12).b = q.2.1.2 by rw [hq], show (p 18).a = q.2.2.1.1 by rw [hq], show (p 18).b = q.2.2.1.2 by rw [hq], show (p 24).a = q.2.2.2.1 by rw [hq], show (p 24).b = q.2.2.2.2 by rw [hq]]
 generalize (p 26).a = s3
 generalize (p 26).b = b3
 clear hq hp
 repeat' (first | refine H_ 2 ?_ | refine ad ?_)
 refine ⟨?_⟩
 obtain ⟨t0, ht0⟩ : ∃ t0 : Mk4 × List ab, t0 = (fr m, []) := ⟨_, rfl⟩
 refine z6 4 3 (by decide) rfl fun se => ?_
 obtain ⟨z, hz⟩ : ∃ z : Nat × Nat, z = (se, 0) := ⟨_, rfl⟩
 refine bm (objs' := (s3, b3, .box [.ms q.1.1 q.1.2 0 t0.1.o.length, .ms q.2.1.1 q.2.1.2 0 t0.1.b.length, .ms q.2.2.1.1 q.2.2.1.2 0 t0.1.c.length, .ms q.2.2.2.1 q.2.2.2.2 0 t0.1.p.length, .ms z.1 z.2 0 t0.2.length]) :: (q.1.1, q.1.2, .row 1 (bR t0.1.o)) :: (q.2.1.1, q.2.1.2, .row 1 (bR t0.1.b)) :: (q.2.2.1.1, q.2.2.1.2, .row 1 (bR t0.1.c)) :: (q.2.2.2.1, q.2.2.2.2, .row 1 (bR t0.1.p)) :: (z.1, z.2, .row 3 (t0.2.map (ab.tw 0))) :: (s2, b2, .box [.nils, .nils, .nils, .nils, .nils]) :: R) (.trans (bp (by simp [ht0, hz, fr, y0]; done)) (xz _ _ _ _ _ _ _)) ?_
 clear hz
 have hw0 : Wk m t0 := ht0 ▸ Wk.start m
 by_cases h0 : m.status = 0
 ·have hnw := hN.now
  have hA0 : Nd.prc m.now.toNat ∈ i7 m := List.mem_append_left _ (by rw [if_pos h0]; exact List.mem_singleton.2 rfl)
  have c1 := cB (s := s3) (b := b3) (q := q) hst hsm (oZ m.now) [.prc m.now.toNat] (gK hnw.1 hnw.2 (.root _ hA0)) t0 z hw0
  rw [show (oZ m.now).kind = 9 from rfl, show (oZ m.now).number = m.now from rfl, show (oZ m.now).text = ⟨#[]⟩ from rfl] at c1
  repeat' (first | refine W_ ?_ | refine eD ?_ | ((with_reducible apply az); rfl; kernel_rfl; (repeat (first | exact aw.nil | ((with_reducible apply aw.cons); rfl))); exact hG; exact c1; exact .cons _ _ _ _ (.cons _ _ _ _ (.cons _ _ _ _ (.cons _ _ _ _ (.cons _ _ _ _ (.cons _ _ _ _ (.nil _)))))); intro u1 a1; refine aR (objs' := (s3, b3, _) :: (q.1.1, q.1.2, _) :: (q.2.1.1, q.2.1.2, _) :: (q.2.2.1.1, q.2.2.1.2, _) :: (q.2.2.2.1, q.2.2.2.2, _) :: (u1.1.1, u1.1.2, _) :: (s2, b2, _) :: R) rfl ?_))
  have hA : Wp m (if m.status = 0 then [Nd.prc m.now.toNat] else []) t0 u1.2 := by rw [if_pos h0]; exact a1
  clear c1 a1
  have hB0 : Wp m ((if m.status = 0 then [Nd.prc m.now.toNat] else []) ++ (m.ready.take 0).map (fun p => Nd.prc p.toNat)) t0 u1.2 := by simpa using hA
  apply am (X := Nat × (Nat × Nat) × (Mk4 × List ab)) [0, 2, 3, 1000000] (fun y => [(4, .int .i64 (y.1 : Int))])
    (fun y => (s3, b3, .box [.ms q.1.1 q.1.2 0 y.2.2.1.o.length, .ms q.2.1.1 q.2.1.2 0 y.2.2.1.b.length, .ms q.2.2.1.1 q.2.2.1.2 0 y.2.2.1.c.length, .ms q.2.2.2.1 q.2.2.2.2 0 y.2.2.1.p.length, .ms y.2.1.1 y.2.1.2 0 y.2.2.2.length]) :: (q.1.1, q.1.2, .row 1 (bR y.2.2.1.o)) :: (q.2.1.1, q.2.1.2, .row 1 (bR y.2.2.1.b)) :: (q.2.2.1.1, q.2.2.1.2, .row 1 (bR y.2.2.1.c)) :: (q.2.2.2.1, q.2.2.2.2, .row 1 (bR y.2.2.1.p)) :: (y.2.1.1, y.2.1.2, .row 3 (y.2.2.2.map (ab.tw 0))) :: (s2, b2, .box [.nils, .nils, .nils, .nils, .nils]) :: R)
    (fun y => y.1 <= m.ready.length /\ Wp m ((if m.status = 0 then [Nd.prc m.now.toNat] else []) ++ (m.ready.take y.1).map (fun p => Nd.prc p.toNat)) t0 y.2.2) (fun y => m.ready.length - y.1) (0, u1.1, u1.2) ⟨Nat.zero_le _, hB0⟩
  exact kp_; exact nw_
  ·exact .refl _
  rintro ⟨i, z2, u⟩ ⟨hi, hu⟩
  dsimp only at hi hu |-
  by_cases hlt : i < m.ready.length
  ·have hgi : (aM m.ready)[i]? = some [.int .i64 m.ready[i]] := aE hlt
   have hrd := hN.rdy _ (List.getElem_mem hlt)
   have hro : Nd.prc m.ready[i].toNat ∈ i7 m := List.mem_append_right _ (List.mem_append_left _ (List.mem_map.2 ⟨_, List.getElem_mem hlt, rfl⟩))
   have hsn : (m.ready.take (i + 1)).map (fun p => Nd.prc p.toNat) = (m.ready.take i).map (fun p => Nd.prc p.toNat) ++ [.prc m.ready[i].toNat] := by rw [<- List.take_append_getElem hlt, List.map_append]; rfl
   generalize m.ready[i] = k at hgi hrd hro hsn
   have c2 := cB (s := s3) (b := b3) (q := q) hst hsm (oZ k) [.prc k.toNat] (gK hrd.1 hrd.2 (.root _ hro)) u z2 hu.wk
   rw [show (oZ k).kind = 9 from rfl, show (oZ k).number = k from rfl, show (oZ k).text = ⟨#[]⟩ from rfl] at c2
   repeat' (first | refine W_ ?_ | refine eD ?_ | ((with_reducible apply az); rfl; kernel_rfl; (repeat (first | exact aw.nil | ((with_reducible apply aw.cons); rfl))); exact hG; exact c2; exact .cons _ _ _ _ (.cons _ _ _ _ (.cons _ _ _ _ (.cons _ _ _ _ (.cons _ _ _ _ (.cons _ _ _ _ (.nil _)))))); intro u3 a3; refine aR (objs' := (s3, b3, _) :: (q.1.1, q.1.2, _) :: (q.2.1.1, q.2.1.2, _) :: (q.2.2.1.1, q.2.2.1.2, _) :: (q.2.2.2.1, q.2.2.2.2, _) :: (u3.1.1, u3.1.2, _) :: (s2, b2, _) :: R) rfl ?_))
   refine ah (i + 1, u3.1, u3.2) ⟨by dsimp only; omega, by dsimp only; rw [hsn, <- List.append_assoc]; exact hu.trans a3⟩ (by dsimp only; omega) (.of _ nw_ od_ (.refl _))
  ·obtain rfl : i = m.ready.length := by omega
   rw [List.take_of_length_le (Nat.le_refl _)] at hu
   have c2 := cB (s := s3) (b := b3) (q := q) hst hsm m.value (dn m.value) (dQ hN.val (fun x hx => .root _ (List.mem_append_right _ (List.mem_append_right _ hx)))) u z2 hu.wk
   repeat' (first | refine W_ ?_ | ((with_reducible apply az); rfl; kernel_rfl; (repeat (first | exact aw.nil | ((with_reducible apply aw.cons); rfl))); exact hG; exact c2; exact .cons _ _ _ _ (.cons _ _ _ _ (.cons _ _ _ _ (.cons _ _ _ _ (.cons _ _ _ _ (.cons _ _ _ _ (.nil _)))))); intro u3 a3; refine aR (objs' := (s3, b3, _) :: (q.1.1, q.1.2, _) :: (q.2.1.1, q.2.1.2, _) :: (q.2.2.1.1, q.2.2.1.2, _) :: (q.2.2.2.1, q.2.2.2.2, _) :: (u3.1.1, u3.1.2, _) :: (s2, b2, _) :: R) rfl ?_))
   have hC : Wp m (i7 m) (fr m, []) u3.2 := by
     have := hu.trans a3
     rw [List.append_assoc, ht0] at this
     exact this
   clear hu a3 c2
   apply am (X := Nat × (Nat × Nat) × (Mk4 × List ab)) [0, 2, 3, 1000000] (fun y => [(5, .int .i64 (y.1 : Int))])
     (fun y => (s3, b3, .box [.ms q.1.1 q.1.2 0 y.2.2.1.o.length, .ms q.2.1.1 q.2.1.2 0 y.2.2.1.b.length, .ms q.2.2.1.1 q.2.2.1.2 0 y.2.2.1.c.length, .ms q.2.2.2.1 q.2.2.2.2 0 y.2.2.1.p.length, .ms y.2.1.1 y.2.1.2 0 y.2.2.2.length]) :: (q.1.1, q.1.2, .row 1 (bR y.2.2.1.o)) :: (q.2.1.1, q.2.1.2, .row 1 (bR y.2.2.1.b)) :: (q.2.2.1.1, q.2.2.1.2, .row 1 (bR y.2.2.1.c)) :: (q.2.2.2.1, q.2.2.2.2, .row 1 (bR y.2.2.1.p)) :: (y.2.1.1, y.2.1.2, .row 3 (y.2.2.2.map (ab.tw 0))) :: (s2, b2, .box [.nils, .nils, .nils, .nils, .nils]) :: R)
     (fun y => Wd m y.1 y.2.2) (fun y => uw m - y.1) (0, u3.1, u3.2) (Wd.start hC)
   exact kp_; exact nw_
   ·exact .refl _
   rintro ⟨i, z4, t4, L⟩ hd
   dsimp only at hd |-
   have hle := hd.le
   have htl := hd.wk.len
   have htot : uw m <= 4194304 := by unfold uw; omega
   dsimp only at hle htl
   by_cases hlt : i < L.length
   ·have hgi : (L.map (ab.tw 0))[i]? = some (L[i].tw 0) := aE hlt
    have hL : L[i]? = some L[i] := List.getElem?_eq_getElem hlt
    have hok := hd.wk.ok _ (List.getElem_mem hlt)
    have hrc := hd.wk.rch _ (List.getElem_mem hlt)
    generalize L[i] = v at hgi hL hok hrc
    rw [show v.tw 0 = [.int .i64 v.kind, .int .i64 v.number, .str v.text] from rfl] at hgi
    have hLl : (L.map (ab.tw 0)).length = L.length := List.length_map _
    have c4 := pW (s := s3) (b := b3) (q := q) (f := f) (lo := lo) hst hN hsm v hok hrc (t4, L) z4 hd.wk
    unfold ag.tw at c4
    repeat' (first | refine W_ ?_ | ((with_reducible apply az); rfl; kernel_rfl; (repeat (first | exact aw.nil | ((with_reducible apply aw.cons); rfl))); exact hG; exact c4; exact .cons _ _ _ _ (.cons _ _ _ _ (.cons _ _ _ _ (.cons _ _ _ _ (.cons _ _ _ _ (.cons _ _ _ _ (.nil _)))))); intro u5 a5; refine aR (objs' := (s3, b3, _) :: (q.1.1, q.1.2, _) :: (q.2.1.1, q.2.1.2, _) :: (q.2.2.1.1, q.2.2.1.2, _) :: (q.2.2.2.1, q.2.2.2.2, _) :: (u5.1.1, u5.1.2, _) :: (s2, b2, _) :: R) rfl ?_))
    refine ah (i + 1, u5.1, u5.2) (hd.next hL a5) (by dsimp only; omega) (.of _ nw_ od_ (.refl _))
   ·obtain rfl : i = L.length := by omega
    have hmk : t4 = bu m := (Wd.full (s := (t4, L)) hd).marks
    subst hmk
    repeat' (first | refine W_ ?_ | refine ad ?_)
    exact aG (t1 := .agg [.ms q.1.1 q.1.2 0 (bu m).o.length, .ms q.2.1.1 q.2.1.2 0 (bu m).b.length, .ms q.2.2.1.1 q.2.2.1.2 0 (bu m).c.length, .ms q.2.2.2.1 q.2.2.2.2 0 (bu m).p.length, .ms z4.1 z4.2 0 L.length]) x_ rfl (q, z4, L) (Wd.full (s := (bu m, L)) hd) rfl (.app _ R) (.sub (.cons _ (.cons_cons _ (.cons_cons _ (.cons_cons _ (.cons_cons _ (.cons_cons _ (.cons _ (List.Sublist.refl _))))))))) (.cell _ _ _ _ _ rfl mm_ (by kernel_rfl) (by kernel_rfl) (by kernel_rfl)) rfl
 ·repeat' refine W_ ?_
  obtain ⟨u1, hu1⟩ : ∃ u1 : (Nat × Nat) × (Mk4 × List ab), u1 = (z, t0) := ⟨_, rfl⟩
  have hA : Wp m (if m.status = 0 then [Nd.prc m.now.toNat] else []) t0 u1.2 := by rw [if_neg h0, hu1]; exact Wp.refl hw0 fun x hx => by simp at hx
  rw [show z = u1.1 by rw [hu1]] 
  rw [show t0 = u1.2 by rw [hu1]]
  have hB0 : Wp m ((if m.status = 0 then [Nd.prc m.now.toNat] else []) ++ (m.ready.take 0).map (fun p => Nd.prc p.toNat)) t0 u1.2 := by simpa using hA
  apply am (X := Nat × (Nat × Nat) × (Mk4 × List ab)) [0, 2, 3, 1000000] (fun y => [(4, .int .i64 (y.1 : Int))])
    (fun y => (s3, b3, .box [.ms q.1.1 q.1.2 0 y.2.2.1.o.length, .ms q.2.1.1 q.2.1.2 0 y.2.2.1.b.length, .ms q.2.2.1.1 q.2.2.1.2 0 y.2.2.1.c.length, .ms q.2.2.2.1 q.2.2.2.2 0 y.2.2.1.p.length, .ms y.2.1.1 y.2.1.2 0 y.2.2.2.length]) :: (q.1.1, q.1.2, .row 1 (bR y.2.2.1.o)) :: (q.2.1.1, q.2.1.2, .row 1 (bR y.2.2.1.b)) :: (q.2.2.1.1, q.2.2.1.2, .row 1 (bR y.2.2.1.c)) :: (q.2.2.2.1, q.2.2.2.2, .row 1 (bR y.2.2.1.p)) :: (y.2.1.1, y.2.1.2, .row 3 (y.2.2.2.map (ab.tw 0))) :: (s2, b2, .box [.nils, .nils, .nils, .nils, .nils]) :: R)
    (fun y => y.1 <= m.ready.length /\ Wp m ((if m.status = 0 then [Nd.prc m.now.toNat] else []) ++ (m.ready.take y.1).map (fun p => Nd.prc p.toNat)) t0 y.2.2) (fun y => m.ready.length - y.1) (0, u1.1, u1.2) ⟨Nat.zero_le _, hB0⟩
  exact kp_; exact nw_
  ·exact .refl _
  rintro ⟨i, z2, u⟩ ⟨hi, hu⟩
  dsimp only at hi hu |-
  by_cases hlt : i < m.ready.length
  ·have hgi : (aM m.ready)[i]? = some [.int .i64 m.ready[i]] := aE hlt
   have hrd := hN.rdy _ (List.getElem_mem hlt)
   have hro : Nd.prc m.ready[i].toNat ∈ i7 m := List.mem_append_right _ (List.mem_append_left _ (List.mem_map.2 ⟨_, List.getElem_mem hlt, rfl⟩))
   have hsn : (m.ready.take (i + 1)).map (fun p => Nd.prc p.toNat) = (m.ready.take i).map (fun p => Nd.prc p.toNat) ++ [.prc m.ready[i].toNat] := by rw [<- List.take_append_getElem hlt, List.map_append]; rfl
   generalize m.ready[i] = k at hgi hrd hro hsn
   have c2 := cB (s := s3) (b := b3) (q := q) hst hsm (oZ k) [.prc k.toNat] (gK hrd.1 hrd.2 (.root _ hro)) u z2 hu.wk
   rw [show (oZ k).kind = 9 from rfl, show (oZ k).number = k from rfl, show (oZ k).text = ⟨#[]⟩ from rfl] at c2
   repeat' (first | refine W_ ?_ | refine eD ?_ | ((with_reducible apply az); rfl; kernel_rfl; (repeat (first | exact aw.nil | ((with_reducible apply aw.cons); rfl))); exact hG; exact c2; exact .cons _ _ _ _ (.cons _ _ _ _ (.cons _ _ _ _ (.cons _ _ _ _ (.cons _ _ _ _ (.cons _ _ _ _ (.nil _)))))); intro u3 a3; refine aR (objs' := (s3, b3, _) :: (q.1.1, q.1.2, _) :: (q.2.1.1, q.2.1.2, _) :: (q.2.2.1.1, q.2.2.1.2, _) :: (q.2.2.2.1, q.2.2.2.2, _) :: (u3.1.1, u3.1.2, _) :: (s2, b2, _) :: R) rfl ?_))
   refine ah (i + 1, u3.1, u3.2) ⟨by dsimp only; omega, by dsimp only; rw [hsn, <- List.append_assoc]; exact hu.trans a3⟩ (by dsimp only; omega) (.of _ nw_ od_ (.refl _))
  ·obtain rfl : i = m.ready.length := by omega
   rw [List.take_of_length_le (Nat.le_refl _)] at hu
   have c2 := cB (s := s3) (b := b3) (q := q) hst hsm m.value (dn m.value) (dQ hN.val (fun x hx => .root _ (List.mem_append_right _ (List.mem_append_right _ hx)))) u z2 hu.wk
   repeat' (first | refine W_ ?_ | ((with_reducible apply az); rfl; kernel_rfl; (repeat (first | exact aw.nil | ((with_reducible apply aw.cons); rfl))); exact hG; exact c2; exact .cons _ _ _ _ (.cons _ _ _ _ (.cons _ _ _ _ (.cons _ _ _ _ (.cons _ _ _ _ (.cons _ _ _ _ (.nil _)))))); intro u3 a3; refine aR (objs' := (s3, b3, _) :: (q.1.1, q.1.2, _) :: (q.2.1.1, q.2.1.2, _) :: (q.2.2.1.1, q.2.2.1.2, _) :: (q.2.2.2.1, q.2.2.2.2, _) :: (u3.1.1, u3.1.2, _) :: (s2, b2, _) :: R) rfl ?_))
   have hC : Wp m (i7 m) (fr m, []) u3.2 := by
     have := hu.trans a3
     rw [List.append_assoc, ht0] at this
     exact this
   clear hu a3 c2
   apply am (X := Nat × (Nat × Nat) × (Mk4 × List ab)) [0, 2, 3, 1000000] (fun y => [(5, .int .i64 (y.1 : Int))])
     (fun y => (s3, b3, .box [.ms q.1.1 q.1.2 0 y.2.2.1.o.length, .ms q.2.1.1 q.2.1.2 0 y.2.2.1.b.length, .ms q.2.2.1.1 q.2.2.1.2 0 y.2.2.1.c.length, .ms q.2.2.2.1 q.2.2.2.2 0 y.2.2.1.p.length, .ms y.2.1.1 y.2.1.2 0 y.2.2.2.length]) :: (q.1.1, q.1.2, .row 1 (bR y.2.2.1.o)) :: (q.2.1.1, q.2.1.2, .row 1 (bR y.2.2.1.b)) :: (q.2.2.1.1, q.2.2.1.2, .row 1 (bR y.2.2.1.c)) :: (q.2.2.2.1, q.2.2.2.2, .row 1 (bR y.2.2.1.p)) :: (y.2.1.1, y.2.1.2, .row 3 (y.2.2.2.map (ab.tw 0))) :: (s2, b2, .box [.nils, .nils, .nils, .nils, .nils]) :: R)
     (fun y => Wd m y.1 y.2.2) (fun y => uw m - y.1) (0, u3.1, u3.2) (Wd.start hC)
   exact kp_; exact nw_
   ·exact .refl _
   rintro ⟨i, z4, t4, L⟩ hd
   dsimp only at hd |-
   have hle := hd.le
   have htl := hd.wk.len
   have htot : uw m <= 4194304 := by unfold uw; omega
   dsimp only at hle htl
   by_cases hlt : i < L.length
   ·have hgi : (L.map (ab.tw 0))[i]? = some (L[i].tw 0) := aE hlt
    have hL : L[i]? = some L[i] := List.getElem?_eq_getElem hlt
    have hok := hd.wk.ok _ (List.getElem_mem hlt)
    have hrc := hd.wk.rch _ (List.getElem_mem hlt)
    generalize L[i] = v at hgi hL hok hrc
    rw [show v.tw 0 = [.int .i64 v.kind, .int .i64 v.number, .str v.text] from rfl] at hgi
    have hLl : (L.map (ab.tw 0)).length = L.length := List.length_map _
    have c4 := pW (s := s3) (b := b3) (q := q) (f := f) (lo := lo) hst hN hsm v hok hrc (t4, L) z4 hd.wk
    unfold ag.tw at c4
    repeat' (first | refine W_ ?_ | ((with_reducible apply az); rfl; kernel_rfl; (repeat (first | exact aw.nil | ((with_reducible apply aw.cons); rfl))); exact hG; exact c4; exact .cons _ _ _ _ (.cons _ _ _ _ (.cons _ _ _ _ (.cons _ _ _ _ (.cons _ _ _ _ (.cons _ _ _ _ (.nil _)))))); intro u5 a5; refine aR (objs' := (s3, b3, _) :: (q.1.1, q.1.2, _) :: (q.2.1.1, q.2.1.2, _) :: (q.2.2.1.1, q.2.2.1.2, _) :: (q.2.2.2.1, q.2.2.2.2, _) :: (u5.1.1, u5.1.2, _) :: (s2, b2, _) :: R) rfl ?_))
    refine ah (i + 1, u5.1, u5.2) (hd.next hL a5) (by dsimp only; omega) (.of _ nw_ od_ (.refl _))
   ·obtain rfl : i = L.length := by omega
    have hmk : t4 = bu m := (Wd.full (s := (t4, L)) hd).marks
    subst hmk
    repeat' (first | refine W_ ?_ | refine ad ?_)
    exact aG (t1 := .agg [.ms q.1.1 q.1.2 0 (bu m).o.length, .ms q.2.1.1 q.2.1.2 0 (bu m).b.length, .ms q.2.2.1.1 q.2.2.1.2 0 (bu m).c.length, .ms q.2.2.2.1 q.2.2.2.2 0 (bu m).p.length, .ms z4.1 z4.2 0 L.length]) x_ rfl (q, z4, L) (Wd.full (s := (bu m, L)) hd) rfl (.app _ R) (.sub (.cons _ (.cons_cons _ (.cons_cons _ (.cons_cons _ (.cons_cons _ (.cons_cons _ (.cons _ (List.Sublist.refl _))))))))) (.cell _ _ _ _ _ rfl mm_ (by kernel_rfl) (by kernel_rfl) (by kernel_rfl)) rfl
end
theorem vr (x p c b o : Nat × Nat × bj) (R : aK) : dp (x :: o :: b :: c :: p :: R) (x :: p :: c :: b :: o :: R) := .perm (by
 have h := ko (n := 6) [[x], [o], [b], [c], [p], R] [0, 4, 3, 2, 1, 5] rfl (by decide)
 simpa using h.symm)
section
variable {G : World -> Prop} {f lo : Nat} {m : ag}
theorem zJ (hst : ay G) (hN : rE m) (hsm : m.small 1048576) : CtM Tryz.prog G 93 [.cp f (m.tw lo)] [] (fun _ : (Nat × Nat) × Rp => wT m (bu m))
   (fun y => rcO y.1.1 y.1.2 f lo m y.2 (bu m)) (fun y => .mp y.1.1 y.1.2 0) := by
 refine aJ Tryz.func93 rfl Tryz.ntmps93 rfl rfl rfl fun w0 R gs objsR hG hR => ?_
 obtain rfl := hR.inv0
 clear hR
 have x1 := hsm.2.1.2.1.1
 have x2 := hsm.2.2.1.1
 have x3 := hsm.2.2.2.1.1
 have x4 := hsm.2.2.2.2.1.1
 have x5 := hsm.2.2.2.2.2.1
 have y1 := ar.len lo m.store.objects
 have y2 := aq.len lo m.blocks
 have y3 := ao.len lo m.contexts
 have y4 := av.len lo m.processes
 have y5 := ap m.ready
 unfold ag.tw
 repeat' (first | refine W_ ?_ | ((with_reducible apply kv (id := 1) 27); kernel_rfl; kernel_rfl; kernel_rfl; rfl; (repeat (first | exact Cut.zero _ | apply Cut.succ))) | ((with_reducible apply m_q); exact ym_; rfl; exact mS) | ((with_reducible apply gq); rfl; (intro p; try dsimp only); (repeat (first | exact TB.nil _ | ((with_reducible apply TB.cons); rfl; rfl; (first | exact .nil _ | exact .put _ _ _ _ _ (.nil _) | exact .skip _ _ _ _ _ (.put _ _ _ _ _ (.nil _)) | exact .skip _ _ _ _ _ (.skip _ _ _ _ _ (.put _ _ _ _ _ (.nil _))) | (repeat (first | exact .nil _ | apply bH.put | apply bH.skip))); kernel_rfl))); rfl; kernel_rfl; kernel_rfl; exact mS) | ((with_reducible apply yO); (intro p; rfl); rfl; rfl; exact rfl; kernel_rfl; kernel_rfl; rfl; rfl; kernel_rfl; omega) | (with_reducible refine DM.nil _ _ _ ?_))
 intro p hp
 refine aR (objs' := ((p 25).a, (p 25).b, .row 1 (List.replicate m.processes.length [.bool false])) :: ((p 19).a, (p 19).b, .row 1 (List.replicate m.contexts.length [.bool false])) :: ((p 13).a, (p 13).b, .row 1 (List.replicate m.blocks.length [.bool false])) :: ((p 7).a, (p 7).b, .row 1 (List.replicate m.store.objects.length [.bool false])) :: R) (by rw [show iY _ = [_, _, _, _] from rfl]; simp only [List.flatMap_cons, List.flatMap_nil, List.append_nil, List.cons_append, List.nil_append]; rfl) ?_
 dsimp only [Nat.reduceAdd]
 obtain ⟨q, hq⟩ : ∃ q : Rp, q = (((p 7).a, (p 7).b), ((p 13).a, (p 13).b), ((p 19).a, (p 19).b), ((p 25).a, (p 25).b)) := ⟨_, rfl⟩
 rw [show (p 7).a = q.1.1 by rw [hq], show (p 7).b = q.1.2 by rw [hq], show (p 13).a = q.2.1.1 by rw [hq], show (p 13).b = q.2.1.2 by rw [hq], show (p 19).a = q.2.2.1.1 by rw [hq], show (p 19).b = q.2.2.1.2 by rw [hq], show (p 25).a = q.2.2.2.1 by rw [hq], show (p 25).b = q.2.2.2.2 by rw [hq]]
 clear hq hp
 repeat' (first | refine H_ 2 ?_ | ((with_reducible apply aaG); rfl; rfl; rfl; intro ss bb))
 refine ⟨?_⟩
 generalize ss = s3; generalize bb = b3
 obtain ⟨t0, ht0⟩ : ∃ t0 : Mk4, t0 = fr m := ⟨_, rfl⟩
 refine bm (objs' := (s3, b3, .box [.cp f (m.tw lo), .ms q.1.1 q.1.2 0 t0.o.length, .ms q.2.1.1 q.2.1.2 0 t0.b.length, .ms q.2.2.1.1 q.2.2.1.2 0 t0.c.length, .ms q.2.2.2.1 q.2.2.2.2 0 t0.p.length]) :: (q.1.1, q.1.2, .row 1 (bR t0.o)) :: (q.2.1.1, q.2.1.2, .row 1 (bR t0.b)) :: (q.2.2.1.1, q.2.2.1.2, .row 1 (bR t0.c)) :: (q.2.2.2.1, q.2.2.2.2, .row 1 (bR t0.p)) :: R) (.trans (bp (by simp [ht0, fr, y0, ag.tw]; done)) (vr _ _ _ _ _ _)) ?_
 have hf0 : t0.fits m := by rw [ht0]; simp [fr, Mk4.fits]
 by_cases h0 : m.status = 0
 ·obtain ⟨nw, hnw⟩ := Int.eq_ofNat_of_zero_le hN.now.1
  have hnl := hN.now.2
  have hA0 : Nd.prc nw ∈ i7 m := List.mem_append_left _ (by rw [if_pos h0, hnw]; exact List.mem_singleton.2 rfl)
  have c1 := (rcH (s := s3) (b := b3) (f := f) (lo := lo) (q := q) hst hN hsm t0.un).prc nw (by omega) (.root _ hA0) t0 hf0 (Nat.le_refl _)
  rw [<- hnw] at c1
  unfold ag.tw
  repeat' (first | refine W_ ?_ | ((with_reducible apply az); rfl; kernel_rfl; (repeat (first | exact aw.nil | ((with_reducible apply aw.cons); rfl))); exact hG; exact c1; exact .cons _ _ _ _ (.cons _ _ _ _ (.cons _ _ _ _ (.cons _ _ _ _ (.cons _ _ _ _ (.nil _))))); intro u1 a1; refine aR (objs' := (s3, b3, _) :: (q.1.1, q.1.2, _) :: (q.2.1.1, q.2.1.2, _) :: (q.2.2.1.1, q.2.2.1.2, _) :: (q.2.2.2.1, q.2.2.2.2, _) :: R) rfl ?_))
  have hA : eZ m (if m.status = 0 then [Nd.prc m.now.toNat] else []) t0 u1 := by rw [if_pos h0, hnw]; exact a1
  clear c1 a1
  have hB0 : eZ m ((if m.status = 0 then [Nd.prc m.now.toNat] else []) ++ (m.ready.take 0).map (fun p => Nd.prc p.toNat)) t0 u1 := by simpa using hA
  apply am (X := Nat × Mk4) [0, 3, 48, 49, 1000000] (fun y => [(50, .int .i64 (y.1 : Int))])
    (fun y => (s3, b3, .box [.cp f (m.tw lo), .ms q.1.1 q.1.2 0 y.2.o.length, .ms q.2.1.1 q.2.1.2 0 y.2.b.length, .ms q.2.2.1.1 q.2.2.1.2 0 y.2.c.length, .ms q.2.2.2.1 q.2.2.2.2 0 y.2.p.length]) :: (q.1.1, q.1.2, .row 1 (bR y.2.o)) :: (q.2.1.1, q.2.1.2, .row 1 (bR y.2.b)) :: (q.2.2.1.1, q.2.2.1.2, .row 1 (bR y.2.c)) :: (q.2.2.2.1, q.2.2.2.2, .row 1 (bR y.2.p)) :: R)
    (fun y => y.1 <= m.ready.length /\ eZ m ((if m.status = 0 then [Nd.prc m.now.toNat] else []) ++ (m.ready.take y.1).map (fun p => Nd.prc p.toNat)) t0 y.2) (fun y => m.ready.length - y.1) (0, u1) ⟨Nat.zero_le _, hB0⟩
  exact kp_; exact nw_
  ·exact .refl _
  rintro ⟨i, u⟩ ⟨hi, hu⟩
  dsimp only at hi hu |-
  by_cases hlt : i < m.ready.length
  ·have hgi : (aM m.ready)[i]? = some [.int .i64 m.ready[i]] := aE hlt
   have hrd := hN.rdy _ (List.getElem_mem hlt)
   have hro : Nd.prc m.ready[i].toNat ∈ i7 m := List.mem_append_right _ (List.mem_append_left _ (List.mem_map.2 ⟨_, List.getElem_mem hlt, rfl⟩))
   have hsn : (m.ready.take (i + 1)).map (fun p => Nd.prc p.toNat) = (m.ready.take i).map (fun p => Nd.prc p.toNat) ++ [.prc m.ready[i].toNat] := by rw [<- List.take_append_getElem hlt, List.map_append]; rfl
   generalize m.ready[i] = k at hgi hrd hro hsn
   obtain ⟨j, rfl⟩ := Int.eq_ofNat_of_zero_le hrd.1
   have c2 := (rcH (s := s3) (b := b3) (f := f) (lo := lo) (q := q) hst hN hsm u.un).prc j (by omega) (.root _ hro) u hu.fits (Nat.le_refl _)
   repeat' (first | refine W_ ?_ | ((with_reducible apply az); rfl; kernel_rfl; (repeat (first | exact aw.nil | ((with_reducible apply aw.cons); rfl))); exact hG; exact c2; exact .cons _ _ _ _ (.cons _ _ _ _ (.cons _ _ _ _ (.cons _ _ _ _ (.cons _ _ _ _ (.nil _))))); intro u3 a3; refine aR (objs' := (s3, b3, _) :: (q.1.1, q.1.2, _) :: (q.2.1.1, q.2.1.2, _) :: (q.2.2.1.1, q.2.2.1.2, _) :: (q.2.2.2.1, q.2.2.2.2, _) :: R) rfl ?_))
   refine ah (i + 1, u3) ⟨by dsimp only; omega, by dsimp only; rw [hsn, <- List.append_assoc]; exact hu.trans a3⟩ (by dsimp only; omega) (.of _ nw_ od_ (.refl _))
  ·obtain rfl : i = m.ready.length := by omega
   rw [List.take_of_length_le (Nat.le_refl _)] at hu
   have c2 := (rcH (s := s3) (b := b3) (f := f) (lo := lo) (q := q) hst hN hsm u.un).val m.value hN.val (fun x hx => .root _ (List.mem_append_right _ (List.mem_append_right _ hx))) u hu.fits (Nat.le_refl _)
   repeat' (first | refine W_ ?_ | ((with_reducible apply az); rfl; kernel_rfl; (repeat (first | exact aw.nil | ((with_reducible apply aw.cons); rfl))); exact hG; exact c2; exact .cons _ _ _ _ (.cons _ _ _ _ (.cons _ _ _ _ (.cons _ _ _ _ (.cons _ _ _ _ (.nil _))))); intro u3 a3; refine aR (objs' := (s3, b3, _) :: (q.1.1, q.1.2, _) :: (q.2.1.1, q.2.1.2, _) :: (q.2.2.1.1, q.2.2.1.2, _) :: (q.2.2.2.1, q.2.2.2.2, _) :: R) rfl ?_))
   have hC : eZ m (i7 m) (fr m) u3 := by
     have := hu.trans a3
     rw [List.append_assoc, ht0] at this
     exact this
   have hmk : u3 = bu m := hC.full.marks
   have hfl := hC.full
   clear hu a3 c2 hC
   subst hmk
   exact aG x_ rfl ((s3, b3), q) hfl rfl (.app _ R) (.refl _) (.tmp _ _ rfl) rfl
 ·unfold ag.tw
  repeat' refine W_ ?_
  obtain ⟨u1, hu1⟩ : ∃ u1 : Mk4, u1 = t0 := ⟨_, rfl⟩
  have hA : eZ m (if m.status = 0 then [Nd.prc m.now.toNat] else []) t0 u1 := by rw [if_neg h0, hu1]; exact eZ.refl hf0 fun x hx => by simp at hx
  rw [<- hu1]
  have hB0 : eZ m ((if m.status = 0 then [Nd.prc m.now.toNat] else []) ++ (m.ready.take 0).map (fun p => Nd.prc p.toNat)) t0 u1 := by simpa using hA
  apply am (X := Nat × Mk4) [0, 3, 48, 49, 1000000] (fun y => [(50, .int .i64 (y.1 : Int))])
    (fun y => (s3, b3, .box [.cp f (m.tw lo), .ms q.1.1 q.1.2 0 y.2.o.length, .ms q.2.1.1 q.2.1.2 0 y.2.b.length, .ms q.2.2.1.1 q.2.2.1.2 0 y.2.c.length, .ms q.2.2.2.1 q.2.2.2.2 0 y.2.p.length]) :: (q.1.1, q.1.2, .row 1 (bR y.2.o)) :: (q.2.1.1, q.2.1.2, .row 1 (bR y.2.b)) :: (q.2.2.1.1, q.2.2.1.2, .row 1 (bR y.2.c)) :: (q.2.2.2.1, q.2.2.2.2, .row 1 (bR y.2.p)) :: R)
    (fun y => y.1 <= m.ready.length /\ eZ m ((if m.status = 0 then [Nd.prc m.now.toNat] else []) ++ (m.ready.take y.1).map (fun p => Nd.prc p.toNat)) t0 y.2) (fun y => m.ready.length - y.1) (0, u1) ⟨Nat.zero_le _, hB0⟩
  exact kp_; exact nw_
  ·exact .refl _
  rintro ⟨i, u⟩ ⟨hi, hu⟩
  dsimp only at hi hu |-
  by_cases hlt : i < m.ready.length
  ·have hgi : (aM m.ready)[i]? = some [.int .i64 m.ready[i]] := aE hlt
   have hrd := hN.rdy _ (List.getElem_mem hlt)
   have hro : Nd.prc m.ready[i].toNat ∈ i7 m := List.mem_append_right _ (List.mem_append_left _ (List.mem_map.2 ⟨_, List.getElem_mem hlt, rfl⟩))
   have hsn : (m.ready.take (i + 1)).map (fun p => Nd.prc p.toNat) = (m.ready.take i).map (fun p => Nd.prc p.toNat) ++ [.prc m.ready[i].toNat] := by rw [<- List.take_append_getElem hlt, List.map_append]; rfl
   generalize m.ready[i] = k at hgi hrd hro hsn
   obtain ⟨j, rfl⟩ := Int.eq_ofNat_of_zero_le hrd.1
   have c2 := (rcH (s := s3) (b := b3) (f := f) (lo := lo) (q := q) hst hN hsm u.un).prc j (by omega) (.root _ hro) u hu.fits (Nat.le_refl _)
   repeat' (first | refine W_ ?_ | ((with_reducible apply az); rfl; kernel_rfl; (repeat (first | exact aw.nil | ((with_reducible apply aw.cons); rfl))); exact hG; exact c2; exact .cons _ _ _ _ (.cons _ _ _ _ (.cons _ _ _ _ (.cons _ _ _ _ (.cons _ _ _ _ (.nil _))))); intro u3 a3; refine aR (objs' := (s3, b3, _) :: (q.1.1, q.1.2, _) :: (q.2.1.1, q.2.1.2, _) :: (q.2.2.1.1, q.2.2.1.2, _) :: (q.2.2.2.1, q.2.2.2.2, _) :: R) rfl ?_))
   refine ah (i + 1, u3) ⟨by dsimp only; omega, by dsimp only; rw [hsn, <- List.append_assoc]; exact hu.trans a3⟩ (by dsimp only; omega) (.of _ nw_ od_ (.refl _))
  ·obtain rfl : i = m.ready.length := by omega
   rw [List.take_of_length_le (Nat.le_refl _)] at hu
   have c2 := (rcH (s := s3) (b := b3) (f := f) (lo := lo) (q := q) hst hN hsm u.un).val m.value hN.val (fun x hx => .root _ (List.mem_append_right _ (List.mem_append_right _ hx))) u hu.fits (Nat.le_refl _)
   repeat' (first | refine W_ ?_ | ((with_reducible apply az); rfl; kernel_rfl; (repeat (first | exact aw.nil | ((with_reducible apply aw.cons); rfl))); exact hG; exact c2; exact .cons _ _ _ _ (.cons _ _ _ _ (.cons _ _ _ _ (.cons _ _ _ _ (.cons _ _ _ _ (.nil _))))); intro u3 a3; refine aR (objs' := (s3, b3, _) :: (q.1.1, q.1.2, _) :: (q.2.1.1, q.2.1.2, _) :: (q.2.2.1.1, q.2.2.1.2, _) :: (q.2.2.2.1, q.2.2.2.2, _) :: R) rfl ?_))
   have hC : eZ m (i7 m) (fr m) u3 := by
     have := hu.trans a3
     rw [List.append_assoc, ht0] at this
     exact this
   have hmk : u3 = bu m := hC.full.marks
   have hfl := hC.full
   clear hu a3 c2 hC
   subst hmk
   exact aG x_ rfl ((s3, b3), q) hfl rfl (.app _ R) (.refl _) (.tmp _ _ rfl) rfl
end
noncomputable def aaY (m : ag) : Int := if di m = true then (n9 (bu m).o : Int) else 0
noncomputable def aaK (m : ag) : Int := if di m = true then (n9 (bu m).b : Int) else 0
noncomputable def aaP (m : ag) : Int := if di m = true then (n9 (bu m).c : Int) else 0
theorem fX (lo : Nat) (m : ag) (hsm : m.small 1048576) : Ct Tryz.prog GL 22 [.agg (m.tw lo)] (fun _ => .tup [.int .i64 (aaY m), .int .i64 (aaK m), .int .i64 (aaP m)]) := by
 refine ak Tryz.func22 rfl Tryz.ntmps22 rfl rfl fun w0 _ hG => ?_
 have hst := cU
 have hct := nz w0.heap.size lo m hsm
 unfold aaY aaK aaP
 cases hV : di m with
 | false =>
   rw [hV] at hct
   unfold ag.tw at hct |-
   repeat' (first | refine W_ ?_ | refine aF ?_ | refine ac hG hst (hct) ?_)
   refine jN x_ rfl (.tmp _ _ rfl) (.tmp _ _ rfl) (.tmp _ _ rfl) (fun _ => ?_) (fun _ => ?_) (fun _ => ?_) <;> exact Fin.flat rfl
 | true =>
   rw [hV] at hct
   have hN := ab1 hV
   have c1 := uk (f := w0.heap.size) (lo := lo) hst hN hsm
   unfold ag.tw at hct c1 |-
   repeat' (first | refine H_ 4 ?_ | refine aF ?_ | refine ac hG hst (hct) ?_ | ((with_reducible apply az); rfl; kernel_rfl; (repeat (first | exact aw.nil | ((with_reducible apply aw.cons); rfl))); exact hG; exact c1; exact .nil _; rintro ⟨q, z, L⟩ hF; refine aR (objs' := (q.1.1, q.1.2, _) :: (q.2.1.1, q.2.1.2, _) :: (q.2.2.1.1, q.2.2.1.2, _) :: (q.2.2.2.1, q.2.2.2.2, _) :: (z.1, z.2, _) :: []) rfl ?_) | (refine aj ?_; intro ss bb) | refine ad ?_)
   refine ⟨?_⟩
   dsimp only
   generalize ss = s5; generalize bb = b5
   obtain ⟨f1, f2, f3, _⟩ := hF.fits
   have z1 := hsm.2.1.2.1.1
   have z2 := hsm.2.2.1.1
   have z3 := hsm.2.2.2.1.1
   have l1 := eg (bu m).o
   have l2 := eg (bu m).b
   have l3 := eg (bu m).c
   have k1 := wz hst 0 (bu m).o (by omega)
   have k2 := wz hst 0 (bu m).b (by omega)
   have k3 := wz hst 0 (bu m).c (by omega)
   repeat' (first | refine V_ ?_ | refine bD hG hst (k1) ?_ | refine bD hG hst (k2) ?_ | refine bD hG hst (k3) ?_)
   refine jN x_ rfl (.tmp _ _ rfl) (.tmp _ _ rfl) (.tmp _ _ rfl) (fun _ => ?_) (fun _ => ?_) (fun _ => ?_) <;> exact Fin.flat rfl
theorem fW (lo : Nat) (m : ag) (hsm : m.small 1048576) : Ct Tryz.prog GL 24 [.agg (m.tw lo)] (fun _ => .tup [.int .i64 (aaY m), .int .i64 (aaK m), .int .i64 (aaP m)]) := by
 refine ak Tryz.func24 rfl Tryz.ntmps24 rfl rfl fun w0 _ hG => ?_
 have hst := cU
 have hct := mj lo m hsm
 unfold aaY aaK aaP
 cases hV : di m with
 | false =>
   rw [hV] at hct
   unfold ag.tw at hct |-
   repeat' (first | refine W_ ?_ | refine aF ?_ | refine ac hG hst (hct) ?_)
   refine jN x_ rfl (.tmp _ _ rfl) (.tmp _ _ rfl) (.tmp _ _ rfl) (fun _ => ?_) (fun _ => ?_) (fun _ => ?_) <;> exact Fin.flat rfl
 | true =>
   rw [hV] at hct
   have hN := ab1 hV
   have c1 := zJ (f := w0.heap.size) (lo := lo) hst hN hsm
   unfold rcO at c1
   unfold ag.tw at hct c1 |-
   repeat' (first | refine H_ 4 ?_ | refine aF ?_ | refine ac hG hst (hct) ?_ | ((with_reducible apply az); rfl; kernel_rfl; (repeat (first | exact aw.nil | ((with_reducible apply aw.cons); rfl))); exact hG; exact c1; exact .nil _; rintro ⟨⟨s5, b5⟩, q⟩ hF; refine aR (objs' := (s5, b5, _) :: (q.1.1, q.1.2, _) :: (q.2.1.1, q.2.1.2, _) :: (q.2.2.1.1, q.2.2.1.2, _) :: (q.2.2.2.1, q.2.2.2.2, _) :: []) rfl ?_))
   refine ⟨?_⟩
   dsimp only
   obtain ⟨f1, f2, f3, _⟩ := hF.fits
   have z1 := hsm.2.1.2.1.1
   have z2 := hsm.2.2.1.1
   have z3 := hsm.2.2.2.1.1
   have l1 := eg (bu m).o
   have l2 := eg (bu m).b
   have l3 := eg (bu m).c
   have k1 := oY hst 0 (bu m).o (by omega)
   have k2 := oY hst 0 (bu m).b (by omega)
   have k3 := oY hst 0 (bu m).c (by omega)
   repeat' (first | refine V_ ?_ | refine bD hG hst (k1) ?_ | refine bD hG hst (k2) ?_ | refine bD hG hst (k3) ?_)
   refine jN x_ rfl (.tmp _ _ rfl) (.tmp _ _ rfl) (.tmp _ _ rfl) (fun _ => ?_) (fun _ => ?_) (fun _ => ?_) <;> exact Fin.flat rfl
theorem fb (x : ag) (hb : x.small 9223372036854775807) : Ct Tryz.prog GL 4 [.agg (x.tw 0)] (fun _ => .bool true) := by
 have hst := cU
 have hto := fun hx => uj hst 0 x hx
 refine ak Tryz.func4 rfl Tryz.ntmps4 rfl rfl fun w0 _ hG => ?_
 have hsp := fun hx => fX w0.heap.size x hx
 have him := fun hx => fW w0.heap.size x hx
 have heq := fun hx => uo hst w0.heap.size w0.heap.size x hx
 have hsz := uz hst 0 x 1048576 (by omega) hb
 generalize aaY x = V1 at hsp him
 generalize aaK x = V2 at hsp him
 generalize aaP x = V3 at hsp him
 unfold ag.tw at hto hsp him heq hsz |-
 repeat' (first | refine H_ 3 ?_ | refine aF ?_ | ((with_reducible apply az); rfl; kernel_rfl; (repeat (first | exact aw.nil | ((with_reducible apply aw.cons); rfl))); exact hG; exact hsz; exact .nil _; intro y hy; refine bv ?_))
 refine ⟨?_⟩
 by_cases hneg : y < 0
 ·repeat' refine W_ ?_
  exact r1_
 have hx := hy.2.2 (by omega)
 replace hto := hto hx
 replace hsp := hsp hx
 replace him := him hx
 replace heq := heq hx
 clear hb hy hsz
 repeat' (first | refine V_ ?_ | (refine aj ?_; intro ss bb) | refine ad ?_ | refine ac hG hst (hto) ?_ | refine ac hG hst (hsp) ?_ | refine ac hG hst (him) ?_ | refine ae hG hst (hto) ?_ | refine ae hG hst (heq) ?_)
 all_goals first
   | (exact r1_)
   | (exfalso; simp_all; done)
theorem cT (w : World) (t : PT) (x : ag) (hat : eU t x) (hsee : de w (· < w.heap.size) t) (hx : x.sane) (hm : pe w) : Calls Tryz.prog 4 #[.agg t.cells.toArray] w fun e w' => e = .returned (.bool true) /\ Below w.heap.size w w' := by
 have h0 : 0 < w.heap.size := by
   obtain ⟨m, hm⟩ := hm
   have := World.block_lt_of_cell? w _ hm
   omega
 have hok := aar w _ _ hsee
 have hsm := qU hat hsee hx
 rw [xr hat] at hok
 refine (fb x hsm w _ h0 hm rfl ?_).mono ?_
 ·intro i t v h1 h2
  match i, h1, h2 with
  | 0, h1, h2 =>
    cases h1; cases h2
    exact .agg _ _ hok.2.1 (by simpa using hok.1) (fun i t v ht hv => hok.2.2 i t v ht (by simpa using hv))
 ·rintro e w' ⟨v, rfl, hb, hr⟩
  have := (hr 0 (Nat.zero_le _)).bool_inv
  subst this
  exact ⟨rfl, hb⟩
end Go.Proofs.YtiihihgjiklnoaaGreatDoor
