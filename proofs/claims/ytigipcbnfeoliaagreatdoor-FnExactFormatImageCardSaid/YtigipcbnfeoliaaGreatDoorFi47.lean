/- Part 47 of the proof: the texts FiE. -/
import Derived.Test.YtigipcbnfeoliaaGreatDoorFi3
import Derived.Test.YtigipcbnfeoliaaGreatDoorFi44
import Derived.Test.YtigipcbnfeoliaaGreatDoorFi45
import Derived.Test.YtigipcbnfeoliaaGreatDoorFi43
set_option linter.all false
set_option maxHeartbeats 8000000
set_option maxRecDepth 20000
namespace Go.Proofs.YtigipcbnfeoliaaGreatDoor
open Go Go.RowKit
theorem eS (x y : Nat × Nat × bv) (R : aF) : cZ (y :: x :: R) (x :: y :: R) := .perm (.swap x y R)
theorem yj (x y z u : Nat × Nat × bv) (R : aF) : cZ (z :: x :: y :: u :: R) (x :: y :: z :: u :: R) := .perm (((List.Perm.swap x z (y :: u :: R)).trans (.cons x (.swap y z (u :: R)))))
theorem afR {a b : Int} (h : i64 a) (k : i64 b) : ∀ n ∈ [a, b], i64 n := by simp [h, k]
theorem abB {a : Int} (h : i64 a) : ∀ n ∈ [a], i64 n := by simp [h]
theorem sC (lo : Nat) (b : aA) (hb : b.sane) (hs : b.small 1048576) (hc : b.codes.length <= 200) : CtM Tryz.prog GF 160 [.agg (b.tw lo)] [] (fun _ : Nat × Nat => True) (fun y => [(y.1, y.2, .row 1 (aT b.lns))]) (fun y => .ms y.1 y.2 0 b.lns.length) := by
 refine aB Tryz.func160 rfl Tryz.ntmps160 rfl rfl rfl fun w0 R gs objsR hG hR => ?_
 obtain rfl := hR.inv0
 clear hR
 have hst := fp
 obtain ⟨a1, a2, a3, a4⟩ := hb
 have hc1 := aa.len lo b.classes
 have hc2 := aw.len lo b.codes
 have hc3 := av.len lo b.entries
 have z1 := hs.1.1
 have z3 := hs.2.2.1
 unfold aA.tw
 repeat' (first | refine W_ ?_ | refine aJ ?_ | ((with_reducible apply vU (n := 0)); rfl; rfl; kernel_rfl; kernel_rfl; rfl; kernel_rfl; rfl; rfl; rfl; rfl; intro ss bb) | refine c_ (fun hc => ?_) (fun hc => ?_) | refine g_ (fun hg => ?_) (fun hg => ?_))
 generalize ss = so; generalize bb = b0
 repeat' (first | refine W_ ?_ | refine c_ (fun hc => ?_) (fun hc => ?_) | refine g_ (fun hg => ?_) (fun hg => ?_))
 apply ai (X := Nat × Nat) [1, 15, 16, 1000000] (fun x => [(3, .ms so x.2 0 ((b.classes.take x.1).map aa.ln).length), (17, .int .i64 (x.1 : Int))]) (fun x => (so, x.2, .row 1 (aT ((b.classes.take x.1).map aa.ln))) :: R) (fun x => x.1 <= b.classes.length) (fun x => b.classes.length - x.1) (0, b0) (Nat.zero_le _)
 ·exact kp_
 ·exact bX.envCons (dE rfl (by simp)) nw_
 ·exact aS (by simp [aT])
 rintro ⟨k, b1⟩ hk
 dsimp only at hk |-
 by_cases hlt : k < b.classes.length
 ·have hrow := gu (lo := lo) hlt
  have hln := aG ((b.classes.take k).map aa.ln)
  have hbd : ((b.classes.take k).map aa.ln).length <= 400000000 := by rw [List.length_map, List.length_take]; omega
  have hsn : ((b.classes.take (k + 1)).map aa.ln) = ((b.classes.take k).map aa.ln) ++ [aa.ln b.classes[k]] := by rw [bN hlt]
  have hsl : ((b.classes.take (k + 1)).map aa.ln).length = ((b.classes.take k).map aa.ln).length + 1 := by rw [hsn, List.length_append]; rfl
  generalize ((b.classes.take k).map aa.ln) = L at hln hbd hsn hsl |-
  have hxs := hs.1.2 _ (List.getElem_mem hlt)
  have hxp := (a1 _ (List.getElem_mem hlt)).2.1
  generalize b.classes[k] = x at hrow hsn hsl hxs hxp
  have zn := hxs.1
  have zf := hxs.2.1
  have hxl := aG x.fields
  have hline := fd ⟨#[99, 108, 97, 115, 115]⟩
  have c0 := fun u1 u2 u3 u4 => uN ([(⟨#[99, 108, 97, 115, 115]⟩ : ByteArray)]) x.name (by simp <;> omega) u1 u2 u3 u4
  have c1 := fun u1 u2 u3 u4 => fP w0.heap.size [x.parent] (abB hxp) ([(⟨#[99, 108, 97, 115, 115]⟩ : ByteArray)] ++ [x.name]) (by simp <;> omega) u1 u2 u3 u4
  repeat' (first | refine W_ ?_ | (refine ak ?_; intro ss bb; refine bY (eS _ _ _) ?_) | refine ae ?_ | ((with_reducible apply nt (id := 5) 8); kernel_rfl; kernel_rfl; kernel_rfl; rfl; (repeat (first | exact Cut.zero _ | apply Cut.succ))) | ((with_reducible apply m_q); exact ym_; rfl; exact iH) | ((with_reducible apply eI); rfl; (intro p; try dsimp only); (repeat (first | exact TB.nil _ | ((with_reducible apply TB.cons); rfl; rfl; (first | exact .nil _ | exact .put _ _ _ _ _ (.nil _) | exact .skip _ _ _ _ _ (.put _ _ _ _ _ (.nil _)) | exact .skip _ _ _ _ _ (.skip _ _ _ _ _ (.put _ _ _ _ _ (.nil _))) | (repeat (first | exact .nil _ | apply bE.put | apply bE.skip))); kernel_rfl))); rfl; kernel_rfl; kernel_rfl; exact iH) | ((with_reducible apply jm); (intro p; rfl); rfl; kernel_rfl; kernel_rfl; rfl; kernel_rfl; rfl; (intro p; rfl); rfl; (intro p; rfl); exact iH) | ((with_reducible apply gr hG hline); rfl; kernel_rfl; (intro p; (repeat (first | exact ay.nil | ((with_reducible apply ay.cons); rfl))))) | ((with_reducible apply bG (i := 0) hG (fun p => c0 _ _ _ _)); rfl; kernel_rfl; (intro p; (repeat (first | exact ay.nil | ((with_reducible apply ay.cons); rfl)))); (intro p; rfl); exact fun _ => ah_; exact bu; exact bu; rfl; (focus (simp; done))) | ((with_reducible apply bG (i := 3) hG (fun p => c1 _ _ _ _)); rfl; kernel_rfl; (intro p; (repeat (first | exact ay.nil | ((with_reducible apply ay.cons); rfl)))); (intro p; rfl); exact fun _ => ah_; exact bu; exact bu; rfl; (focus (simp; done))) | (with_reducible refine DM.nil _ _ _ ?_) | refine c_ (fun hc => ?_) (fun hc => ?_) | refine g_ (fun hg => ?_) (fun hg => ?_))
  intro p hp
  clear hp
  refine eG (objs' := ((Enc.dec (p 0) : (Nat × Nat) × (Nat × Nat)).1.1, (Enc.dec (p 0) : (Nat × Nat) × (Nat × Nat)).1.2, .box [.ms (Enc.dec (p 0) : (Nat × Nat) × (Nat × Nat)).2.1 (Enc.dec (p 7) : Nat) 0 (([(⟨#[99, 108, 97, 115, 115]⟩ : ByteArray)] ++ [x.name]) ++ ([x.parent].map ba)).length]) :: ((Enc.dec (p 0) : (Nat × Nat) × (Nat × Nat)).2.1, (Enc.dec (p 7) : Nat), .row 1 (aT (([(⟨#[99, 108, 97, 115, 115]⟩ : ByteArray)] ++ [x.name]) ++ ([x.parent].map ba)))) :: (so, b1, _) :: (ss, bb, _) :: R) (by rw [show gL _ = [_] from rfl]; (try simp only [List.flatMap_cons, List.flatMap_nil, List.append_nil, List.append_assoc, List.cons_append, List.nil_append]); (try rfl)) ?_
  try dsimp only [Nat.reduceAdd]
  generalize (Enc.dec (p 0) : (Nat × Nat) × (Nat × Nat)) = yl
  generalize (Enc.dec (p 7) : Nat) = bl
  obtain ⟨⟨s, sb⟩, s2, b2⟩ := yl
  dsimp only
  generalize hPc : ([(⟨#[99, 108, 97, 115, 115]⟩ : ByteArray)] ++ [x.name]) ++ ([x.parent].map ba) = P0
  repeat' (first | refine W_ ?_ | refine c_ (fun hc => ?_) (fun hc => ?_) | refine g_ (fun hg => ?_) (fun hg => ?_))
  apply ai (X := Nat × Nat) [1, 3, 5, 6, 15, 16, 17, 30, 31, 1000000] (fun y => [(32, .int .i64 (y.1 : Int))]) (fun y => lrO s sb s2 y.2 (P0 ++ x.fields.take y.1) ++ (so, b1, .row 1 (aT L)) :: (ss, bb, .box [.str x.name, .int .i64 x.parent, .sl lo 1 (aT x.fields)]) :: R) (fun y => y.1 <= x.fields.length) (fun y => x.fields.length - y.1) (0, bl) (Nat.zero_le _)
  ·exact kp_
  ·exact nw_
  ·exact aS (by subst hPc; simp [lrO])
  rintro ⟨j, b3⟩ hj
  dsimp only at hj |-
  by_cases hjl : j < x.fields.length
  ·have hr2 := cB hjl
   have hsn2 : P0 ++ x.fields.take (j + 1) = (P0 ++ x.fields.take j) ++ [x.fields[j]] := by rw [List.take_add_one, List.getElem?_eq_getElem hjl, Option.toList_some, List.append_assoc]
   have hzl : (P0 ++ x.fields.take j).length <= 1048579 := by rw [<- hPc]; simp; omega
   generalize P0 ++ x.fields.take j = zs at hsn2 hzl |-
   have htx := uN zs x.fields[j] (by omega) s sb s2 b3
   generalize x.fields[j] = u at hr2 hsn2 htx
   refine fr (objs' := (s, sb, _) :: (s2, b3, _) :: (so, b1, _) :: (ss, bb, _) :: R) (aS rfl) ?_
   repeat' (first | refine W_ ?_ | ((with_reducible apply aE); rfl; kernel_rfl; (repeat (first | exact ay.nil | ((with_reducible apply ay.cons); rfl))); exact hG; exact htx; exact .cons _ _ _ _ (.cons _ _ _ _ (.nil _)); intro y hy; refine eG (objs' := (s, sb, _) :: (s2, y, _) :: (so, b1, _) :: (ss, bb, _) :: R) rfl ?_) | refine c_ (fun hc => ?_) (fun hc => ?_) | refine g_ (fun hg => ?_) (fun hg => ?_))
   rw [<- hsn2]
   exact ah (j + 1, y) (by (try dsimp only); omega) (by (try dsimp only); omega) (.of _ nw_ od_ (aS rfl))
  obtain rfl : j = x.fields.length := by omega
  rw [List.take_length]
  rw [<- hPc]
  have hstr := e9 ⟨#[99, 108, 97, 115, 115]⟩ (([x.name] ++ ([x.parent].map ba)) ++ x.fields) (by simp [dh] <;> omega) 2097200 (by decide) (by decide +kernel) (wo (wo (ael (by omega)) (zC (abB hxp))) (fun y hy => Nat.le_trans (hxs.2.2 y hy) (by decide))) s sb s2 b3
  refine fr (objs' := (s, sb, .box [.ms s2 b3 0 _]) :: (s2, b3, .row 1 _) :: (so, b1, _) :: (ss, bb, _) :: R) (aS rfl) ?_
  repeat' (first | refine W_ ?_ | ((with_reducible apply aE); rfl; kernel_rfl; (repeat (first | exact ay.nil | ((with_reducible apply ay.cons); rfl))); exact hG; exact hstr; exact .cons _ _ _ _ (.cons _ _ _ _ (.nil _)); rintro ⟨⟩ -; refine eG (objs' := (so, b1, _) :: (ss, bb, _) :: R) rfl ?_) | refine ch ?_ | ((with_reducible apply bx); rfl; rfl; rfl; kernel_rfl; (repeat (first | with_reducible exact mh | with_reducible refine mt ?_)); exact hln; exact (rfl : _ = 1); omega; exact fx (e2 := x.ln) (by rfl); (intro bq; (repeat (first | with_reducible exact Upd.head _ | with_reducible apply Upd.tail))); intro bz) | refine c_ (fun hc => ?_) (fun hc => ?_) | refine g_ (fun hg => ?_) (fun hg => ?_))
  rw [<- hsn]
  exact ah (k + 1, bz) (by (try dsimp only); omega) (by (try dsimp only); omega) (.of _ (bX.envCons (dE rfl hsl.symm) nw_) od_ pk_)
 obtain rfl : k = b.classes.length := by omega
 rw [List.take_length]
 repeat' (first | refine W_ ?_ | refine c_ (fun hc => ?_) (fun hc => ?_) | refine g_ (fun hg => ?_) (fun hg => ?_))
 apply ai (X := Nat × Nat) [1, 47, 48, 1000000] (fun x => [(3, .ms so x.2 0 (b.classes.map aa.ln ++ (b.codes.take x.1).flatMap aw.lns).length), (49, .int .i64 (x.1 : Int))]) (fun x => (so, x.2, .row 1 (aT (b.classes.map aa.ln ++ (b.codes.take x.1).flatMap aw.lns))) :: R) (fun x => x.1 <= b.codes.length) (fun x => b.codes.length - x.1) (0, b1) (Nat.zero_le _)
 ·exact kp_
 ·exact bX.envCons (dE rfl (by simp)) nw_
 ·exact aS (by simp [aT])
 rintro ⟨k, b1⟩ hk
 dsimp only at hk |-
 by_cases hlt : k < b.codes.length
 ·have hrow := ue (lo := lo) hlt
  have hln := aG (b.classes.map aa.ln ++ (b.codes.take k).flatMap aw.lns)
  have hbd : (b.classes.map aa.ln ++ (b.codes.take k).flatMap aw.lns).length <= 400000000 := by have := fM (b.codes.take k) (fun y hy => hs.2.1.2 y (List.mem_of_mem_take hy)); have h5 : (b.codes.take k).length * (1048576 + 1) <= 200 * (1048576 + 1) := Nat.mul_le_mul_right _ (by rw [List.length_take]; omega); simp only [List.length_append, List.length_map]; omega
  have hsn : (b.classes.map aa.ln ++ (b.codes.take (k + 1)).flatMap aw.lns) = (b.classes.map aa.ln ++ (b.codes.take k).flatMap aw.lns) ++ (aw.lns b.codes[k]) := by rw [ua hlt, List.append_assoc]
  have hsl : (b.classes.map aa.ln ++ (b.codes.take (k + 1)).flatMap aw.lns).length = (b.classes.map aa.ln ++ (b.codes.take k).flatMap aw.lns).length + (aw.lns b.codes[k]).length := by rw [hsn, List.length_append]
  generalize (b.classes.map aa.ln ++ (b.codes.take k).flatMap aw.lns) = L at hln hbd hsn hsl |-
  have hfc := abj lo b.codes[k] (a2 _ (List.getElem_mem hlt)) (hs.2.1.2 _ (List.getElem_mem hlt))
  have hl2 := aG b.codes[k].lns
  have hl3 : b.codes[k].lns.length <= 1048577 := by have := (hs.2.1.2 _ (List.getElem_mem hlt)).1; simp only [aw.lns, List.length_cons, List.length_map]; omega
  unfold aw.tw at hfc
  generalize b.codes[k] = x at hrow hsn hsl hfc hl2 hl3
  repeat' (first | refine W_ ?_ | (refine ak ?_; intro ss bb; refine bY (eS _ _ _) ?_) | refine ae ?_ | refine ac hG hst (hfc) ?_ | ((with_reducible apply bx); rfl; rfl; rfl; kernel_rfl; (repeat (first | with_reducible exact mh | with_reducible refine mt ?_)); exact hln; exact hl2; omega; exact ut _ _; (intro bq; (repeat (first | with_reducible exact Upd.head _ | with_reducible apply Upd.tail))); intro bz) | refine c_ (fun hc => ?_) (fun hc => ?_) | refine g_ (fun hg => ?_) (fun hg => ?_))
  rw [<- hsn]
  exact ah (k + 1, bz) (by (try dsimp only); omega) (by (try dsimp only); omega) (.of _ (bX.envCons (dE rfl hsl.symm) nw_) od_ pk_)
 obtain rfl : k = b.codes.length := by omega
 rw [List.take_length]
 have hp3 : (b.classes.map aa.ln ++ b.codes.flatMap aw.lns).length <= 211000000 := by
   have := fM b.codes hs.2.1.2
   have h5 : b.codes.length * (1048576 + 1) <= 200 * (1048576 + 1) := Nat.mul_le_mul_right _ hc
   simp only [List.length_append, List.length_map]; omega
 generalize hP3 : b.classes.map aa.ln ++ b.codes.flatMap aw.lns = p3 at hp3 |-
 repeat' (first | refine W_ ?_ | refine c_ (fun hc => ?_) (fun hc => ?_) | refine g_ (fun hg => ?_) (fun hg => ?_))
 apply ai (X := Nat × Nat) [1, 59, 60, 1000000] (fun x => [(3, .ms so x.2 0 (p3 ++ (b.entries.take x.1).map av.ln).length), (61, .int .i64 (x.1 : Int))]) (fun x => (so, x.2, .row 1 (aT (p3 ++ (b.entries.take x.1).map av.ln))) :: R) (fun x => x.1 <= b.entries.length) (fun x => b.entries.length - x.1) (0, b1) (Nat.zero_le _)
 ·exact kp_
 ·exact bX.envCons (dE rfl (by simp)) nw_
 ·exact aS (by simp [aT])
 rintro ⟨k, b1⟩ hk
 dsimp only at hk |-
 by_cases hlt : k < b.entries.length
 ·have hrow := xv (lo := lo) hlt
  have hln := aG (p3 ++ (b.entries.take k).map av.ln)
  have hbd : (p3 ++ (b.entries.take k).map av.ln).length <= 400000000 := by rw [List.length_append, List.length_map, List.length_take]; omega
  have hsn : (p3 ++ (b.entries.take (k + 1)).map av.ln) = (p3 ++ (b.entries.take k).map av.ln) ++ [av.ln b.entries[k]] := by rw [bN hlt, List.append_assoc]
  have hsl : (p3 ++ (b.entries.take (k + 1)).map av.ln).length = (p3 ++ (b.entries.take k).map av.ln).length + 1 := by rw [hsn, List.length_append]; rfl
  generalize (p3 ++ (b.entries.take k).map av.ln) = L at hln hbd hsn hsl |-
  have hxs : b.entries[k].selector.size <= 1048576 := hs.2.2.2 _ (List.getElem_mem hlt)
  have hxo := (a3 _ (List.getElem_mem hlt)).1
  have hxc := (a3 _ (List.getElem_mem hlt)).2.2
  generalize b.entries[k] = x at hrow hsn hsl hxs hxo hxc
  have hline := fd ⟨#[101, 110, 116, 114, 121]⟩
  have c0 := fun u1 u2 u3 u4 => fP w0.heap.size [x.owner] (abB hxo) ([(⟨#[101, 110, 116, 114, 121]⟩ : ByteArray)]) (by simp <;> omega) u1 u2 u3 u4
  have c1 := fun u1 u2 u3 u4 => zQ x.class_ ([(⟨#[101, 110, 116, 114, 121]⟩ : ByteArray)] ++ ([x.owner].map ba)) (by simp <;> omega) u1 u2 u3 u4
  have c2 := fun u1 u2 u3 u4 => uN (([(⟨#[101, 110, 116, 114, 121]⟩ : ByteArray)] ++ ([x.owner].map ba)) ++ [gy x.class_]) x.selector (by simp <;> omega) u1 u2 u3 u4
  have c3 := fun u1 u2 u3 u4 => fP w0.heap.size [x.code] (abB hxc) ((([(⟨#[101, 110, 116, 114, 121]⟩ : ByteArray)] ++ ([x.owner].map ba)) ++ [gy x.class_]) ++ [x.selector]) (by simp <;> omega) u1 u2 u3 u4
  have hstr := e9 ⟨#[101, 110, 116, 114, 121]⟩ (((([x.owner].map ba) ++ [gy x.class_]) ++ [x.selector]) ++ ([x.code].map ba)) (by simp [dh] <;> omega) 2097200 (by decide) (by decide +kernel) (wo (wo (wo (zC (abB hxo)) (afa _)) (ael (by omega))) (zC (abB hxc)))
  repeat' (first | refine W_ ?_ | (refine ak ?_; intro ss bb; refine bY (eS _ _ _) ?_) | refine ae ?_ | ((with_reducible apply fA (id := 21) 19); kernel_rfl; kernel_rfl; kernel_rfl; rfl; (repeat (first | exact Cut.zero _ | apply Cut.succ))) | ((with_reducible apply m_q); exact ym_; rfl; exact iH) | ((with_reducible apply eI); rfl; (intro p; try dsimp only); (repeat (first | exact TB.nil _ | ((with_reducible apply TB.cons); rfl; rfl; (first | exact .nil _ | exact .put _ _ _ _ _ (.nil _) | exact .skip _ _ _ _ _ (.put _ _ _ _ _ (.nil _)) | exact .skip _ _ _ _ _ (.skip _ _ _ _ _ (.put _ _ _ _ _ (.nil _))) | (repeat (first | exact .nil _ | apply bE.put | apply bE.skip))); kernel_rfl))); rfl; kernel_rfl; kernel_rfl; exact iH) | ((with_reducible apply jm); (intro p; rfl); rfl; kernel_rfl; kernel_rfl; rfl; kernel_rfl; rfl; (intro p; rfl); rfl; (intro p; rfl); exact iH) | ((with_reducible apply gr hG hline); rfl; kernel_rfl; (intro p; (repeat (first | exact ay.nil | ((with_reducible apply ay.cons); rfl))))) | ((with_reducible apply bG (i := 1) hG (fun p => c0 _ _ _ _)); rfl; kernel_rfl; (intro p; (repeat (first | exact ay.nil | ((with_reducible apply ay.cons); rfl)))); (intro p; rfl); exact fun _ => ah_; exact bu; exact bu; rfl; (focus (simp; done))) | ((with_reducible apply bG (i := 5) hG (fun p => c1 _ _ _ _)); rfl; kernel_rfl; (intro p; (repeat (first | exact ay.nil | ((with_reducible apply ay.cons); rfl)))); (intro p; rfl); exact fun _ => ah_; exact bu; exact bu; rfl; (focus (simp; done))) | ((with_reducible apply bG (i := 8) hG (fun p => c2 _ _ _ _)); rfl; kernel_rfl; (intro p; (repeat (first | exact ay.nil | ((with_reducible apply ay.cons); rfl)))); (intro p; rfl); exact fun _ => ah_; exact bu; exact bu; rfl; (focus (simp; done))) | ((with_reducible apply bG (i := 11) hG (fun p => c3 _ _ _ _)); rfl; kernel_rfl; (intro p; (repeat (first | exact ay.nil | ((with_reducible apply ay.cons); rfl)))); (intro p; rfl); exact fun _ => ah_; exact bu; exact bu; rfl; (focus (simp; done))) | ((with_reducible apply bG (i := 15) hG (fun p => hstr _ _ _ _)); rfl; kernel_rfl; (intro p; (repeat (first | exact ay.nil | ((with_reducible apply ay.cons); rfl)))); (intro p; rfl); exact fun _ => ah_; exact bu; exact bu; rfl; (focus (simp; done))) | ((with_reducible apply lc); (intro p; rfl); (intro p; rfl); rfl; kernel_rfl; (intro p; rfl); exact hln; (intro p; show List.length _ = 1; rfl); omega; exact fun p => fx (e2 := x.ln) (by rfl); exact ⟨by decide, by decide⟩; exact bu; rfl; (focus (simp; done))) | (with_reducible refine DM.nil _ _ _ ?_) | refine c_ (fun hc => ?_) (fun hc => ?_) | refine g_ (fun hg => ?_) (fun hg => ?_))
  intro p hp
  clear hp
  refine eG (objs' := (so, (p 18).b, .row 1 (aT (L ++ [x.ln]))) :: (ss, bb, _) :: R) (by rw [show gL _ = [_, _] from rfl]; (try simp only [List.flatMap_cons, List.flatMap_nil, List.append_nil, List.append_assoc, List.cons_append, List.nil_append]); (try rfl)) ?_
  try dsimp only [Nat.reduceAdd]
  generalize Yu.b (p 18) = bz
  repeat' (first | refine W_ ?_ | refine c_ (fun hc => ?_) (fun hc => ?_) | refine g_ (fun hg => ?_) (fun hg => ?_))
  rw [<- hsn]
  exact ah (k + 1, bz) (by (try dsimp only); omega) (by (try dsimp only); omega) (.of _ (bX.envCons (dE rfl hsl.symm) nw_) od_ pk_)
 obtain rfl : k = b.entries.length := by omega
 rw [List.take_length]
 have hln := aG (p3 ++ b.entries.map av.ln)
 have hbd : (p3 ++ b.entries.map av.ln).length <= 400000000 := by rw [List.length_append, List.length_map]; omega
 have hfin : (p3 ++ b.entries.map av.ln) ++ [lnB ⟨#[109, 97, 105, 110]⟩ [ba b.main]] = b.lns := by rw [<- hP3]; simp [aA.lns]
 have hfl : (p3 ++ b.entries.map av.ln).length + 1 = b.lns.length := by rw [<- hfin, List.length_append (bs := [_])]; rfl
 generalize p3 ++ b.entries.map av.ln = L at hln hbd hfin hfl |-
 have hline := fd ⟨#[109, 97, 105, 110]⟩
 have c0 := fun u1 u2 u3 u4 => fP w0.heap.size [b.main] (abB a4) ([(⟨#[109, 97, 105, 110]⟩ : ByteArray)]) (by simp <;> omega) u1 u2 u3 u4
 have hstr := e9 ⟨#[109, 97, 105, 110]⟩ ([b.main].map ba) (by simp [dh] <;> omega) 2097200 (by decide) (by decide +kernel) (zC (abB a4))
 repeat' (first | refine W_ ?_ | ((with_reducible apply fA (id := 23) 9); kernel_rfl; kernel_rfl; kernel_rfl; rfl; (repeat (first | exact Cut.zero _ | apply Cut.succ))) | ((with_reducible apply m_q); exact ym_; rfl; exact iH) | ((with_reducible apply eI); rfl; (intro p; try dsimp only); (repeat (first | exact TB.nil _ | ((with_reducible apply TB.cons); rfl; rfl; (first | exact .nil _ | exact .put _ _ _ _ _ (.nil _) | exact .skip _ _ _ _ _ (.put _ _ _ _ _ (.nil _)) | exact .skip _ _ _ _ _ (.skip _ _ _ _ _ (.put _ _ _ _ _ (.nil _))) | (repeat (first | exact .nil _ | apply bE.put | apply bE.skip))); kernel_rfl))); rfl; kernel_rfl; kernel_rfl; exact iH) | ((with_reducible apply jm); (intro p; rfl); rfl; kernel_rfl; kernel_rfl; rfl; kernel_rfl; rfl; (intro p; rfl); rfl; (intro p; rfl); exact iH) | ((with_reducible apply gr hG hline); rfl; kernel_rfl; (intro p; (repeat (first | exact ay.nil | ((with_reducible apply ay.cons); rfl))))) | ((with_reducible apply bG (i := 1) hG (fun p => c0 _ _ _ _)); rfl; kernel_rfl; (intro p; (repeat (first | exact ay.nil | ((with_reducible apply ay.cons); rfl)))); (intro p; rfl); exact fun _ => ah_; exact bu; exact bu; rfl; (focus (simp; done))) | ((with_reducible apply bG (i := 5) hG (fun p => hstr _ _ _ _)); rfl; kernel_rfl; (intro p; (repeat (first | exact ay.nil | ((with_reducible apply ay.cons); rfl)))); (intro p; rfl); exact fun _ => ah_; exact bu; exact bu; rfl; (focus (simp; done))) | ((with_reducible apply lc); (intro p; rfl); (intro p; rfl); rfl; kernel_rfl; (intro p; rfl); exact hln; (intro p; show List.length _ = 1; rfl); omega; exact fun p => fx (e2 := lnB ⟨#[109, 97, 105, 110]⟩ [ba b.main]) (by rfl); exact ⟨by decide, by decide⟩; exact bu; rfl; (focus (simp; done))) | (with_reducible refine DM.nil _ _ _ ?_) | refine c_ (fun hc => ?_) (fun hc => ?_) | refine g_ (fun hg => ?_) (fun hg => ?_))
 intro p hp
 clear hp
 refine eG (objs' := (so, (p 8).b, .row 1 (aT (L ++ [lnB ⟨#[109, 97, 105, 110]⟩ [ba b.main]]))) :: R) (by rw [show gL _ = [_, _] from rfl]; (try simp only [List.flatMap_cons, List.flatMap_nil, List.append_nil, List.append_assoc, List.cons_append, List.nil_append]); (try rfl)) ?_
 try dsimp only [Nat.reduceAdd]
 generalize Yu.b (p 8) = bz
 repeat' (first | refine W_ ?_ | refine c_ (fun hc => ?_) (fun hc => ?_) | refine g_ (fun hg => ?_) (fun hg => ?_))
 rw [hfin, hfl]
 exact az x_ rfl (so, bz) trivial rfl (.cons _ _ _ _ (.nil R)) pk_ (.tmp _ _ rfl) rfl
theorem pj (lo : Nat) (m : ao) (hm : m.sane) (hs : m.small 1048576) (hc : m.base.codes.length <= 200) : CtM Tryz.prog GF 74 [.agg (m.tw lo)] [] (fun _ : Nat × Nat => True) (fun y => [(y.1, y.2, .row 1 (aT m.lns))]) (fun y => .ms y.1 y.2 0 m.lns.length) := by
 refine aB Tryz.func74 rfl Tryz.ntmps74 rfl rfl rfl fun w0 R gs objsR hG hR => ?_
 obtain rfl := hR.inv0
 clear hR
 have hst := fp
 obtain ⟨a1, a2, a3, a4, a5, a6, a7, a8, a9, a10⟩ := hm
 have hbs := sC lo m.base a1 hs.1 hc
 have hbl := lS hs.1 hc
 have z0 := hs.2.1.2.2.1
 have z1 := hs.2.1.2.1.1
 have z2 := hs.2.2.1.1
 have z3 := hs.2.2.2.1.1
 have z4 := hs.2.2.2.2.1.1
 have z5 := hs.2.2.2.2.2.1
 have c00 := aG m.store.output
 have c01 := au.len lo m.store.objects
 have c02 := am.len lo m.blocks
 have c03 := aj.len lo m.contexts
 have c04 := ap.len lo m.processes
 have hlst : ∀ n ∈ [m.store.budget, m.store.ticks, m.store.made], i64 n := by simp [a2.2.2.2.1, a2.2.2.2.2.1, a2.2.2.2.2.2]
 have hln := aG m.base.lns
 unfold ao.tw
 unfold aA.tw at hbs
 repeat' (first | refine H_ 2 ?_ | refine aJ ?_ | ((with_reducible apply aE); rfl; kernel_rfl; (repeat (first | exact ay.nil | ((with_reducible apply ay.cons); rfl))); exact hG; exact hbs; exact .nil _; rintro ⟨so, b0⟩ -; refine bF ?_) | refine c_ (fun hc => ?_) (fun hc => ?_) | refine g_ (fun hg => ?_) (fun hg => ?_))
 refine ⟨?_⟩
 have hline := fd ⟨#[115, 116, 111, 114, 101]⟩
 have c0 := fun u1 u2 u3 u4 => fP w0.heap.size [m.store.budget, m.store.ticks, m.store.made] hlst ([(⟨#[115, 116, 111, 114, 101]⟩ : ByteArray)]) (by simp <;> omega) u1 u2 u3 u4
 have hstr := e9 ⟨#[115, 116, 111, 114, 101]⟩ ([m.store.budget, m.store.ticks, m.store.made].map ba) (by simp [dh] <;> omega) 2097200 (by decide) (by decide +kernel) (zC hlst)
 repeat' (first | refine W_ ?_ | ((with_reducible apply fA (id := 2) 16); kernel_rfl; kernel_rfl; kernel_rfl; rfl; (repeat (first | exact Cut.zero _ | apply Cut.succ))) | ((with_reducible apply m_q); exact ym_; rfl; exact iH) | ((with_reducible apply eI); rfl; (intro p; try dsimp only); (repeat (first | exact TB.nil _ | ((with_reducible apply TB.cons); rfl; rfl; (first | exact .nil _ | exact .put _ _ _ _ _ (.nil _) | exact .skip _ _ _ _ _ (.put _ _ _ _ _ (.nil _)) | exact .skip _ _ _ _ _ (.skip _ _ _ _ _ (.put _ _ _ _ _ (.nil _))) | (repeat (first | exact .nil _ | apply bE.put | apply bE.skip))); kernel_rfl))); rfl; kernel_rfl; kernel_rfl; exact iH) | ((with_reducible apply jm); (intro p; rfl); rfl; kernel_rfl; kernel_rfl; rfl; kernel_rfl; rfl; (intro p; rfl); rfl; (intro p; rfl); exact iH) | ((with_reducible apply gr hG hline); rfl; kernel_rfl; (intro p; (repeat (first | exact ay.nil | ((with_reducible apply ay.cons); rfl))))) | ((with_reducible apply bG (i := 1) hG (fun p => c0 _ _ _ _)); rfl; kernel_rfl; (intro p; (repeat (first | exact ay.nil | ((with_reducible apply ay.cons); rfl)))); (intro p; rfl); exact fun _ => ah_; exact bu; exact bu; rfl; (focus (simp; done))) | ((with_reducible apply bG (i := 12) hG (fun p => hstr _ _ _ _)); rfl; kernel_rfl; (intro p; (repeat (first | exact ay.nil | ((with_reducible apply ay.cons); rfl)))); (intro p; rfl); exact fun _ => ah_; exact bu; exact bu; rfl; (focus (simp; done))) | ((with_reducible apply lc); (intro p; rfl); (intro p; rfl); rfl; kernel_rfl; (intro p; rfl); exact hln; (intro p; show List.length _ = 1; rfl); omega; exact fun p => fx (e2 := lnB ⟨#[115, 116, 111, 114, 101]⟩ [ba m.store.budget, ba m.store.ticks, ba m.store.made]) (by rfl); exact ⟨by decide, by decide⟩; exact bu; rfl; (focus (simp; done))) | (with_reducible refine DM.nil _ _ _ ?_) | refine c_ (fun hc => ?_) (fun hc => ?_) | refine g_ (fun hg => ?_) (fun hg => ?_))
 intro p hp
 clear hp
 refine eG (objs' := (so, (p 15).b, .row 1 (aT (m.base.lns ++ [lnB ⟨#[115, 116, 111, 114, 101]⟩ [ba m.store.budget, ba m.store.ticks, ba m.store.made]]))) :: R) (by rw [show gL _ = [_, _] from rfl]; (try simp only [List.flatMap_cons, List.flatMap_nil, List.append_nil, List.append_assoc, List.cons_append, List.nil_append]); (try rfl)) ?_
 try dsimp only [Nat.reduceAdd]
 generalize Yu.b (p 15) = bz
 repeat' (first | refine W_ ?_ | refine c_ (fun hc => ?_) (fun hc => ?_) | refine g_ (fun hg => ?_) (fun hg => ?_))
 have hp4 : m.base.lns.length + 1 = (m.base.lns ++ [lnB ⟨#[115, 116, 111, 114, 101]⟩ [ba m.store.budget, ba m.store.ticks, ba m.store.made]]).length := by rw [List.length_append]; rfl
 rw [hp4]
 clear hln hline c0 hstr
 generalize hP4 : m.base.lns ++ [lnB ⟨#[115, 116, 111, 114, 101]⟩ [ba m.store.budget, ba m.store.ticks, ba m.store.made]] = p4 at hp4 |-
 repeat' (first | refine W_ ?_ | refine c_ (fun hc => ?_) (fun hc => ?_) | refine g_ (fun hg => ?_) (fun hg => ?_))
 apply ai (X := Nat × Nat) [1, 36, 37, 1000000] (fun x => [(3, .ms so x.2 0 (p4 ++ (m.store.output.take x.1).map eT).length), (38, .int .i64 (x.1 : Int))]) (fun x => (so, x.2, .row 1 (aT (p4 ++ (m.store.output.take x.1).map eT))) :: R) (fun x => x.1 <= m.store.output.length) (fun x => m.store.output.length - x.1) (0, bz) (Nat.zero_le _)
 ·exact kp_
 ·exact bX.envCons (dE rfl (by simp)) nw_
 ·exact aS (by simp [aT])
 rintro ⟨k, b1⟩ hk
 dsimp only at hk |-
 by_cases hlt : k < m.store.output.length
 ·have hrow := cB hlt
  have hln := aG (p4 ++ (m.store.output.take k).map eT)
  have hbd : (p4 ++ (m.store.output.take k).map eT).length <= 400000000 := by rw [List.length_append, List.length_map, List.length_take]; omega
  have hsn : (p4 ++ (m.store.output.take (k + 1)).map eT) = (p4 ++ (m.store.output.take k).map eT) ++ [eT m.store.output[k]] := by rw [bN hlt, List.append_assoc]
  have hsl : (p4 ++ (m.store.output.take (k + 1)).map eT).length = (p4 ++ (m.store.output.take k).map eT).length + 1 := by rw [hsn, List.length_append]; rfl
  generalize (p4 ++ (m.store.output.take k).map eT) = L at hln hbd hsn hsl |-
  have hz : m.store.output[k].size <= 1048576 := hs.2.1.2.2.2 _ (List.getElem_mem hlt)
  generalize m.store.output[k] = x at hrow hsn hsl hz
  repeat' (first | refine W_ ?_ | refine ch ?_ | ((with_reducible apply bx); rfl; rfl; rfl; kernel_rfl; (repeat (first | with_reducible exact mh | with_reducible refine mt ?_)); exact hln; exact (rfl : _ = 1); omega; exact fx (e2 := eT x) (by rfl); (intro bq; (repeat (first | with_reducible exact Upd.head _ | with_reducible apply Upd.tail))); intro bz) | refine c_ (fun hc => ?_) (fun hc => ?_) | refine g_ (fun hg => ?_) (fun hg => ?_))
  rw [<- hsn]
  exact ah (k + 1, bz) (by (try dsimp only); omega) (by (try dsimp only); omega) (.of _ (bX.envCons (dE rfl hsl.symm) nw_) od_ pk_)
 obtain rfl : k = m.store.output.length := by omega
 rw [List.take_length]
 have hp5 : (p4 ++ m.store.output.map eT).length = p4.length + m.store.output.length := by rw [List.length_append, List.length_map]
 generalize hP5 : p4 ++ m.store.output.map eT = p5 at hp5 |-
 repeat' (first | refine W_ ?_ | refine c_ (fun hc => ?_) (fun hc => ?_) | refine g_ (fun hg => ?_) (fun hg => ?_))
 apply ai (X := Nat × Nat) [1, 50, 51, 1000000] (fun x => [(3, .ms so x.2 0 (p5 ++ (m.store.objects.take x.1).map au.ln).length), (52, .int .i64 (x.1 : Int))]) (fun x => (so, x.2, .row 1 (aT (p5 ++ (m.store.objects.take x.1).map au.ln))) :: R) (fun x => x.1 <= m.store.objects.length) (fun x => m.store.objects.length - x.1) (0, b1) (Nat.zero_le _)
 ·exact kp_
 ·exact bX.envCons (dE rfl (by simp)) nw_
 ·exact aS (by simp [aT])
 rintro ⟨k, b1⟩ hk
 dsimp only at hk |-
 by_cases hlt : k < m.store.objects.length
 ·have hrow := lK (lo := lo) hlt
  have hln := aG (p5 ++ (m.store.objects.take k).map au.ln)
  have hbd : (p5 ++ (m.store.objects.take k).map au.ln).length <= 400000000 := by rw [List.length_append, List.length_map, List.length_take]; omega
  have hsn : (p5 ++ (m.store.objects.take (k + 1)).map au.ln) = (p5 ++ (m.store.objects.take k).map au.ln) ++ [au.ln m.store.objects[k]] := by rw [bN hlt, List.append_assoc]
  have hsl : (p5 ++ (m.store.objects.take (k + 1)).map au.ln).length = (p5 ++ (m.store.objects.take k).map au.ln).length + 1 := by rw [hsn, List.length_append]; rfl
  generalize (p5 ++ (m.store.objects.take k).map au.ln) = L at hln hbd hsn hsl |-
  have hxs := hs.2.1.2.1.2 _ (List.getElem_mem hlt)
  have hxa := a2.2.1 _ (List.getElem_mem hlt)
  generalize m.store.objects[k] = x at hrow hsn hsl hxs hxa
  have hn2 := hxs.2
  have hn3 := hxs.1.1
  have hnl := ar x.numbers
  have hl : ∀ n ∈ [x.kind, x.class_, ((x.numbers.length : Nat) : Int)], i64 n := by simp [hxa.1, hxa.2.1]; exact mb (by omega)
  have hvf := qp hxa.2.2.1 hxs.1.2
  have hline := fd ⟨#[111, 98, 106, 101, 99, 116]⟩
  have c0 := fun u1 u2 u3 u4 => fP w0.heap.size [x.kind, x.class_, ((x.numbers.length : Nat) : Int)] hl ([(⟨#[111, 98, 106, 101, 99, 116]⟩ : ByteArray)]) (by simp <;> omega) u1 u2 u3 u4
  have c1 := fun u1 u2 u3 u4 => fP lo x.numbers hxa.2.2.2 ([(⟨#[111, 98, 106, 101, 99, 116]⟩ : ByteArray)] ++ ([x.kind, x.class_, ((x.numbers.length : Nat) : Int)].map ba)) (by simp <;> omega) u1 u2 u3 u4
  have c2 := fun u1 u2 u3 u4 => xI lo x.fields hvf (([(⟨#[111, 98, 106, 101, 99, 116]⟩ : ByteArray)] ++ ([x.kind, x.class_, ((x.numbers.length : Nat) : Int)].map ba)) ++ (x.numbers.map ba)) (by simp [dh] <;> omega) u1 u2 u3 u4
  have hstr := e9 ⟨#[111, 98, 106, 101, 99, 116]⟩ ((([x.kind, x.class_, ((x.numbers.length : Nat) : Int)].map ba) ++ (x.numbers.map ba)) ++ (dh x.fields)) (by simp [dh] <;> omega) 2097200 (by decide) (by decide +kernel) (wo (wo (zC hl) (zC hxa.2.2.2)) (ae1 hvf hxs.1.1))
  repeat' (first | refine W_ ?_ | (refine ak ?_; intro ss bb; refine bY (eS _ _ _) ?_) | refine ae ?_ | ((with_reducible apply fA (id := 11) 20); kernel_rfl; kernel_rfl; kernel_rfl; rfl; (repeat (first | exact Cut.zero _ | apply Cut.succ))) | ((with_reducible apply m_q); exact ym_; rfl; exact iH) | ((with_reducible apply eI); rfl; (intro p; try dsimp only); (repeat (first | exact TB.nil _ | ((with_reducible apply TB.cons); rfl; rfl; (first | exact .nil _ | exact .put _ _ _ _ _ (.nil _) | exact .skip _ _ _ _ _ (.put _ _ _ _ _ (.nil _)) | exact .skip _ _ _ _ _ (.skip _ _ _ _ _ (.put _ _ _ _ _ (.nil _))) | (repeat (first | exact .nil _ | apply bE.put | apply bE.skip))); kernel_rfl))); rfl; kernel_rfl; kernel_rfl; exact iH) | ((with_reducible apply jm); (intro p; rfl); rfl; kernel_rfl; kernel_rfl; rfl; kernel_rfl; rfl; (intro p; rfl); rfl; (intro p; rfl); exact iH) | ((with_reducible apply gr hG hline); rfl; kernel_rfl; (intro p; (repeat (first | exact ay.nil | ((with_reducible apply ay.cons); rfl))))) | ((with_reducible apply bG (i := 1) hG (fun p => c0 _ _ _ _)); rfl; kernel_rfl; (intro p; (repeat (first | exact ay.nil | ((with_reducible apply ay.cons); rfl)))); (intro p; rfl); exact fun _ => ah_; exact bu; exact bu; rfl; (focus (simp; done))) | ((with_reducible apply bG (i := 10) hG (fun p => c1 _ _ _ _)); rfl; kernel_rfl; (intro p; (repeat (first | exact ay.nil | ((with_reducible apply ay.cons); rfl)))); (intro p; rfl); exact fun _ => ah_; exact bu; exact bu; rfl; (focus (simp; done))) | ((with_reducible apply bG (i := 13) hG (fun p => c2 _ _ _ _)); rfl; kernel_rfl; (intro p; (repeat (first | exact ay.nil | ((with_reducible apply ay.cons); rfl)))); (intro p; rfl); exact fun _ => ah_; exact bu; exact bu; rfl; (focus (simp; done))) | ((with_reducible apply bG (i := 16) hG (fun p => hstr _ _ _ _)); rfl; kernel_rfl; (intro p; (repeat (first | exact ay.nil | ((with_reducible apply ay.cons); rfl)))); (intro p; rfl); exact fun _ => ah_; exact bu; exact bu; rfl; (focus (simp; done))) | ((with_reducible apply lc); (intro p; rfl); (intro p; rfl); rfl; kernel_rfl; (intro p; rfl); exact hln; (intro p; show List.length _ = 1; rfl); omega; exact fun p => fx (e2 := x.ln) (by simp only [au.ln, List.append_assoc]; rfl); exact ⟨by decide, by decide⟩; exact bu; rfl; (focus (simp; done))) | (with_reducible refine DM.nil _ _ _ ?_) | refine c_ (fun hc => ?_) (fun hc => ?_) | refine g_ (fun hg => ?_) (fun hg => ?_))
  intro p hp
  clear hp
  refine eG (objs' := (so, (p 19).b, .row 1 (aT (L ++ [x.ln]))) :: (ss, bb, _) :: R) (by rw [show gL _ = [_, _] from rfl]; (try simp only [List.flatMap_cons, List.flatMap_nil, List.append_nil, List.append_assoc, List.cons_append, List.nil_append]); (try rfl)) ?_
  try dsimp only [Nat.reduceAdd]
  generalize Yu.b (p 19) = bz
  repeat' (first | refine W_ ?_ | refine c_ (fun hc => ?_) (fun hc => ?_) | refine g_ (fun hg => ?_) (fun hg => ?_))
  rw [<- hsn]
  exact ah (k + 1, bz) (by (try dsimp only); omega) (by (try dsimp only); omega) (.of _ (bX.envCons (dE rfl hsl.symm) nw_) od_ pk_)
 obtain rfl : k = m.store.objects.length := by omega
 rw [List.take_length]
 have hp6 : (p5 ++ m.store.objects.map au.ln).length = p5.length + m.store.objects.length := by rw [List.length_append, List.length_map]
 generalize hP6 : p5 ++ m.store.objects.map au.ln = p6 at hp6 |-
 repeat' (first | refine W_ ?_ | refine c_ (fun hc => ?_) (fun hc => ?_) | refine g_ (fun hg => ?_) (fun hg => ?_))
 apply ai (X := Nat × Nat) [1, 78, 79, 1000000] (fun x => [(3, .ms so x.2 0 (p6 ++ (m.blocks.take x.1).map am.ln).length), (80, .int .i64 (x.1 : Int))]) (fun x => (so, x.2, .row 1 (aT (p6 ++ (m.blocks.take x.1).map am.ln))) :: R) (fun x => x.1 <= m.blocks.length) (fun x => m.blocks.length - x.1) (0, b1) (Nat.zero_le _)
 ·exact kp_
 ·exact bX.envCons (dE rfl (by simp)) nw_
 ·exact aS (by simp [aT])
 rintro ⟨k, b1⟩ hk
 dsimp only at hk |-
 by_cases hlt : k < m.blocks.length
 ·have hrow := mo (lo := lo) hlt
  have hln := aG (p6 ++ (m.blocks.take k).map am.ln)
  have hbd : (p6 ++ (m.blocks.take k).map am.ln).length <= 400000000 := by rw [List.length_append, List.length_map, List.length_take]; omega
  have hsn : (p6 ++ (m.blocks.take (k + 1)).map am.ln) = (p6 ++ (m.blocks.take k).map am.ln) ++ [am.ln m.blocks[k]] := by rw [bN hlt, List.append_assoc]
  have hsl : (p6 ++ (m.blocks.take (k + 1)).map am.ln).length = (p6 ++ (m.blocks.take k).map am.ln).length + 1 := by rw [hsn, List.length_append]; rfl
  generalize (p6 ++ (m.blocks.take k).map am.ln) = L at hln hbd hsn hsl |-
  have hxs : m.blocks[k].self.text.size <= 1048576 := hs.2.2.1.2 _ (List.getElem_mem hlt)
  have hxa := a3 _ (List.getElem_mem hlt)
  generalize m.blocks[k] = x at hrow hsn hsl hxs hxa
  have hl : ∀ n ∈ [x.code, x.outer, x.home], i64 n := by simp [hxa.1, hxa.2.1, hxa.2.2.1]
  have hline := fd ⟨#[99, 108, 111, 115, 117, 114, 101]⟩
  have c0 := fun u1 u2 u3 u4 => fP w0.heap.size [x.code, x.outer, x.home] hl ([(⟨#[99, 108, 111, 115, 117, 114, 101]⟩ : ByteArray)]) (by simp <;> omega) u1 u2 u3 u4
  have c1 := fun u1 u2 u3 u4 => re x.self hxa.2.2.2 hxs ([(⟨#[99, 108, 111, 115, 117, 114, 101]⟩ : ByteArray)] ++ ([x.code, x.outer, x.home].map ba)) (by simp <;> omega) u1 u2 u3 u4
  have hstr := e9 ⟨#[99, 108, 111, 115, 117, 114, 101]⟩ (([x.code, x.outer, x.home].map ba) ++ [ab.fmt x.self]) (by simp [dh] <;> omega) 2097200 (by decide) (by decide +kernel) (wo (zC hl) (ael (fb x.self hxa.2.2.2 hxs)))
  repeat' (first | refine W_ ?_ | (refine ak ?_; intro ss bb; refine bY (eS _ _ _) ?_) | refine ae ?_ | ((with_reducible apply fA (id := 16) 16); kernel_rfl; kernel_rfl; kernel_rfl; rfl; (repeat (first | exact Cut.zero _ | apply Cut.succ))) | ((with_reducible apply m_q); exact ym_; rfl; exact iH) | ((with_reducible apply eI); rfl; (intro p; try dsimp only); (repeat (first | exact TB.nil _ | ((with_reducible apply TB.cons); rfl; rfl; (first | exact .nil _ | exact .put _ _ _ _ _ (.nil _) | exact .skip _ _ _ _ _ (.put _ _ _ _ _ (.nil _)) | exact .skip _ _ _ _ _ (.skip _ _ _ _ _ (.put _ _ _ _ _ (.nil _))) | (repeat (first | exact .nil _ | apply bE.put | apply bE.skip))); kernel_rfl))); rfl; kernel_rfl; kernel_rfl; exact iH) | ((with_reducible apply jm); (intro p; rfl); rfl; kernel_rfl; kernel_rfl; rfl; kernel_rfl; rfl; (intro p; rfl); rfl; (intro p; rfl); exact iH) | ((with_reducible apply gr hG hline); rfl; kernel_rfl; (intro p; (repeat (first | exact ay.nil | ((with_reducible apply ay.cons); rfl))))) | ((with_reducible apply bG (i := 1) hG (fun p => c0 _ _ _ _)); rfl; kernel_rfl; (intro p; (repeat (first | exact ay.nil | ((with_reducible apply ay.cons); rfl)))); (intro p; rfl); exact fun _ => ah_; exact bu; exact bu; rfl; (focus (simp; done))) | ((with_reducible apply bG (i := 9) hG (fun p => c1 _ _ _ _)); rfl; kernel_rfl; (intro p; (repeat (first | exact ay.nil | ((with_reducible apply ay.cons); rfl)))); (intro p; rfl); exact fun _ => ah_; exact bu; exact bu; rfl; (focus (simp; done))) | ((with_reducible apply bG (i := 12) hG (fun p => hstr _ _ _ _)); rfl; kernel_rfl; (intro p; (repeat (first | exact ay.nil | ((with_reducible apply ay.cons); rfl)))); (intro p; rfl); exact fun _ => ah_; exact bu; exact bu; rfl; (focus (simp; done))) | ((with_reducible apply lc); (intro p; rfl); (intro p; rfl); rfl; kernel_rfl; (intro p; rfl); exact hln; (intro p; show List.length _ = 1; rfl); omega; exact fun p => fx (e2 := x.ln) (by rfl); exact ⟨by decide, by decide⟩; exact bu; rfl; (focus (simp; done))) | (with_reducible refine DM.nil _ _ _ ?_) | refine c_ (fun hc => ?_) (fun hc => ?_) | refine g_ (fun hg => ?_) (fun hg => ?_))
  intro p hp
  clear hp
  refine eG (objs' := (so, (p 15).b, .row 1 (aT (L ++ [x.ln]))) :: (ss, bb, _) :: R) (by rw [show gL _ = [_, _] from rfl]; (try simp only [List.flatMap_cons, List.flatMap_nil, List.append_nil, List.append_assoc, List.cons_append, List.nil_append]); (try rfl)) ?_
  try dsimp only [Nat.reduceAdd]
  generalize Yu.b (p 15) = bz
  repeat' (first | refine W_ ?_ | refine c_ (fun hc => ?_) (fun hc => ?_) | refine g_ (fun hg => ?_) (fun hg => ?_))
  rw [<- hsn]
  exact ah (k + 1, bz) (by (try dsimp only); omega) (by (try dsimp only); omega) (.of _ (bX.envCons (dE rfl hsl.symm) nw_) od_ pk_)
 obtain rfl : k = m.blocks.length := by omega
 rw [List.take_length]
 have hp7 : (p6 ++ m.blocks.map am.ln).length = p6.length + m.blocks.length := by rw [List.length_append, List.length_map]
 generalize hP7 : p6 ++ m.blocks.map am.ln = p7 at hp7 |-
 repeat' (first | refine W_ ?_ | refine c_ (fun hc => ?_) (fun hc => ?_) | refine g_ (fun hg => ?_) (fun hg => ?_))
 apply ai (X := Nat × Nat) [1, 102, 103, 1000000] (fun x => [(3, .ms so x.2 0 (p7 ++ (m.contexts.take x.1).map aj.ln).length), (104, .int .i64 (x.1 : Int))]) (fun x => (so, x.2, .row 1 (aT (p7 ++ (m.contexts.take x.1).map aj.ln))) :: R) (fun x => x.1 <= m.contexts.length) (fun x => m.contexts.length - x.1) (0, b1) (Nat.zero_le _)
 ·exact kp_
 ·exact bX.envCons (dE rfl (by simp)) nw_
 ·exact aS (by simp [aT])
 rintro ⟨k, b1⟩ hk
 dsimp only at hk |-
 by_cases hlt : k < m.contexts.length
 ·have hrow := cV (lo := lo) hlt
  have hln := aG (p7 ++ (m.contexts.take k).map aj.ln)
  have hbd : (p7 ++ (m.contexts.take k).map aj.ln).length <= 400000000 := by rw [List.length_append, List.length_map, List.length_take]; omega
  have hsn : (p7 ++ (m.contexts.take (k + 1)).map aj.ln) = (p7 ++ (m.contexts.take k).map aj.ln) ++ [aj.ln m.contexts[k]] := by rw [bN hlt, List.append_assoc]
  have hsl : (p7 ++ (m.contexts.take (k + 1)).map aj.ln).length = (p7 ++ (m.contexts.take k).map aj.ln).length + 1 := by rw [hsn, List.length_append]; rfl
  generalize (p7 ++ (m.contexts.take k).map aj.ln) = L at hln hbd hsn hsl |-
  have hxs := hs.2.2.2.1.2 _ (List.getElem_mem hlt)
  have hxa := a4 _ (List.getElem_mem hlt)
  generalize m.contexts[k] = x at hrow hsn hsl hxs hxa
  have hv1 := qp hxa.2.2.2.2.2.2.2.1 hxs.2.1.2
  have hv2 := qp hxa.2.2.2.2.2.2.2.2.1 hxs.2.2.1.2
  have hv3 := qp hxa.2.2.2.2.2.2.2.2.2.1 hxs.2.2.2.2
  have n1 := hxs.2.1.1
  have n2 := hxs.2.2.1.1
  have n3 := hxs.2.2.2.1
  have hl : ∀ n ∈ [x.mark, x.code, x.pc, x.sender, x.outer, x.home, x.other], i64 n := by simp [hxa.1, hxa.2.1, hxa.2.2.1, hxa.2.2.2.1, hxa.2.2.2.2.1, hxa.2.2.2.2.2.1, hxa.2.2.2.2.2.2.2.2.2.2]
  have hline := fd ⟨#[99, 111, 110, 116, 101, 120, 116]⟩
  have c0 := fun u1 u2 u3 u4 => fP w0.heap.size [x.mark, x.code, x.pc, x.sender, x.outer, x.home, x.other] hl ([(⟨#[99, 111, 110, 116, 101, 120, 116]⟩ : ByteArray)]) (by simp <;> omega) u1 u2 u3 u4
  have c1 := fun u1 u2 u3 u4 => zQ x.retry ([(⟨#[99, 111, 110, 116, 101, 120, 116]⟩ : ByteArray)] ++ ([x.mark, x.code, x.pc, x.sender, x.outer, x.home, x.other].map ba)) (by simp <;> omega) u1 u2 u3 u4
  have c2 := fun u1 u2 u3 u4 => re x.self hxa.2.2.2.2.2.2.1 hxs.1 (([(⟨#[99, 111, 110, 116, 101, 120, 116]⟩ : ByteArray)] ++ ([x.mark, x.code, x.pc, x.sender, x.outer, x.home, x.other].map ba)) ++ [gy x.retry]) (by simp <;> omega) u1 u2 u3 u4
  have c3 := fun u1 u2 u3 u4 => xI lo x.slots hv1 ((([(⟨#[99, 111, 110, 116, 101, 120, 116]⟩ : ByteArray)] ++ ([x.mark, x.code, x.pc, x.sender, x.outer, x.home, x.other].map ba)) ++ [gy x.retry]) ++ [ab.fmt x.self]) (by simp [dh] <;> omega) u1 u2 u3 u4
  have c4 := fun u1 u2 u3 u4 => xI lo x.stack hv2 (((([(⟨#[99, 111, 110, 116, 101, 120, 116]⟩ : ByteArray)] ++ ([x.mark, x.code, x.pc, x.sender, x.outer, x.home, x.other].map ba)) ++ [gy x.retry]) ++ [ab.fmt x.self]) ++ (dh x.slots)) (by simp [dh] <;> omega) u1 u2 u3 u4
  have c5 := fun u1 u2 u3 u4 => xI lo x.values hv3 ((((([(⟨#[99, 111, 110, 116, 101, 120, 116]⟩ : ByteArray)] ++ ([x.mark, x.code, x.pc, x.sender, x.outer, x.home, x.other].map ba)) ++ [gy x.retry]) ++ [ab.fmt x.self]) ++ (dh x.slots)) ++ (dh x.stack)) (by simp [dh] <;> omega) u1 u2 u3 u4
  have hstr := e9 ⟨#[99, 111, 110, 116, 101, 120, 116]⟩ (((((([x.mark, x.code, x.pc, x.sender, x.outer, x.home, x.other].map ba) ++ [gy x.retry]) ++ [ab.fmt x.self]) ++ (dh x.slots)) ++ (dh x.stack)) ++ (dh x.values)) (by simp [dh] <;> omega) 2097200 (by decide) (by decide +kernel) (wo (wo (wo (wo (wo (zC hl) (afa _)) (ael (fb x.self hxa.2.2.2.2.2.2.1 hxs.1))) (ae1 hv1 hxs.2.1.1)) (ae1 hv2 hxs.2.2.1.1)) (ae1 hv3 hxs.2.2.2.1))
  repeat' (first | refine W_ ?_ | (refine ak ?_; intro ss bb; refine bY (eS _ _ _) ?_) | refine ae ?_ | ((with_reducible apply nt (id := 21) 23); kernel_rfl; kernel_rfl; kernel_rfl; rfl; (repeat (first | exact Cut.zero _ | apply Cut.succ))) | ((with_reducible apply m_q); exact ym_; rfl; exact iH) | ((with_reducible apply eI); rfl; (intro p; try dsimp only); (repeat (first | exact TB.nil _ | ((with_reducible apply TB.cons); rfl; rfl; (first | exact .nil _ | exact .put _ _ _ _ _ (.nil _) | exact .skip _ _ _ _ _ (.put _ _ _ _ _ (.nil _)) | exact .skip _ _ _ _ _ (.skip _ _ _ _ _ (.put _ _ _ _ _ (.nil _))) | (repeat (first | exact .nil _ | apply bE.put | apply bE.skip))); kernel_rfl))); rfl; kernel_rfl; kernel_rfl; exact iH) | ((with_reducible apply jm); (intro p; rfl); rfl; kernel_rfl; kernel_rfl; rfl; kernel_rfl; rfl; (intro p; rfl); rfl; (intro p; rfl); exact iH) | ((with_reducible apply gr hG hline); rfl; kernel_rfl; (intro p; (repeat (first | exact ay.nil | ((with_reducible apply ay.cons); rfl))))) | ((with_reducible apply bG (i := 0) hG (fun p => c0 _ _ _ _)); rfl; kernel_rfl; (intro p; (repeat (first | exact ay.nil | ((with_reducible apply ay.cons); rfl)))); (intro p; rfl); exact fun _ => ah_; exact bu; exact bu; rfl; (focus (simp; done))) | ((with_reducible apply bG (i := 16) hG (fun p => c1 _ _ _ _)); rfl; kernel_rfl; (intro p; (repeat (first | exact ay.nil | ((with_reducible apply ay.cons); rfl)))); (intro p; rfl); exact fun _ => ah_; exact bu; exact bu; rfl; (focus (simp; done))) | ((with_reducible apply bG (i := 19) hG (fun p => c2 _ _ _ _)); rfl; kernel_rfl; (intro p; (repeat (first | exact ay.nil | ((with_reducible apply ay.cons); rfl)))); (intro p; rfl); exact fun _ => ah_; exact bu; exact bu; rfl; (focus (simp; done))) | (with_reducible refine DM.nil _ _ _ ?_) | refine c_ (fun hc => ?_) (fun hc => ?_) | refine g_ (fun hg => ?_) (fun hg => ?_))
  intro p hp
  clear hp
  refine eG (objs' := ((Enc.dec (p 0) : (Nat × Nat) × (Nat × Nat)).1.1, (Enc.dec (p 0) : (Nat × Nat) × (Nat × Nat)).1.2, .box [.ms (Enc.dec (p 0) : (Nat × Nat) × (Nat × Nat)).2.1 (Enc.dec (p 22) : Nat) 0 ((([(⟨#[99, 111, 110, 116, 101, 120, 116]⟩ : ByteArray)] ++ ([x.mark, x.code, x.pc, x.sender, x.outer, x.home, x.other].map ba)) ++ [gy x.retry]) ++ [ab.fmt x.self]).length]) :: ((Enc.dec (p 0) : (Nat × Nat) × (Nat × Nat)).2.1, (Enc.dec (p 22) : Nat), .row 1 (aT ((([(⟨#[99, 111, 110, 116, 101, 120, 116]⟩ : ByteArray)] ++ ([x.mark, x.code, x.pc, x.sender, x.outer, x.home, x.other].map ba)) ++ [gy x.retry]) ++ [ab.fmt x.self]))) :: (so, b1, _) :: (ss, bb, _) :: R) (by rw [show gL _ = [_] from rfl]; (try simp only [List.flatMap_cons, List.flatMap_nil, List.append_nil, List.append_assoc, List.cons_append, List.nil_append]); (try rfl)) ?_
  try dsimp only [Nat.reduceAdd]
  generalize (Enc.dec (p 0) : (Nat × Nat) × (Nat × Nat)) = yl
  generalize (Enc.dec (p 22) : Nat) = bl
  obtain ⟨⟨s, sb⟩, s2, b2⟩ := yl
  dsimp only
  refine bY (yj _ _ _ _ _) ?_
  repeat' (first | refine W_ ?_ | ((with_reducible apply aa1 (id := 22) 14); kernel_rfl; kernel_rfl; kernel_rfl; rfl; (repeat (first | exact Cut.zero _ | apply Cut.succ))) | ((with_reducible apply m_q); exact ym_; rfl; exact iH) | ((with_reducible apply eI); rfl; (intro p; try dsimp only); (repeat (first | exact TB.nil _ | ((with_reducible apply TB.cons); rfl; rfl; (first | exact .nil _ | exact .put _ _ _ _ _ (.nil _) | exact .skip _ _ _ _ _ (.put _ _ _ _ _ (.nil _)) | exact .skip _ _ _ _ _ (.skip _ _ _ _ _ (.put _ _ _ _ _ (.nil _))) | (repeat (first | exact .nil _ | apply bE.put | apply bE.skip))); kernel_rfl))); rfl; kernel_rfl; kernel_rfl; exact iH) | ((with_reducible apply jm); (intro p; rfl); rfl; kernel_rfl; kernel_rfl; rfl; kernel_rfl; rfl; (intro p; rfl); rfl; (intro p; rfl); exact iH) | ((with_reducible apply bG (i := 1000001) hG (fun p => c3 _ _ _ _)); rfl; kernel_rfl; (intro p; (repeat (first | exact ay.nil | ((with_reducible apply ay.cons); rfl)))); (intro p; rfl); exact fun h => absurd h (by decide); exact bu; exact bu; rfl; (focus (simp; done))) | ((with_reducible apply bG (i := 4) hG (fun p => c4 _ _ _ _)); rfl; kernel_rfl; (intro p; (repeat (first | exact ay.nil | ((with_reducible apply ay.cons); rfl)))); (intro p; rfl); exact fun _ => ah_; exact bu; exact bu; rfl; (focus (simp; done))) | ((with_reducible apply bG (i := 7) hG (fun p => c5 _ _ _ _)); rfl; kernel_rfl; (intro p; (repeat (first | exact ay.nil | ((with_reducible apply ay.cons); rfl)))); (intro p; rfl); exact fun _ => ah_; exact bu; exact bu; rfl; (focus (simp; done))) | ((with_reducible apply bG (i := 10) hG (fun p => hstr _ _ _ _)); rfl; kernel_rfl; (intro p; (repeat (first | exact ay.nil | ((with_reducible apply ay.cons); rfl)))); (intro p; rfl); exact fun _ => ah_; exact bu; exact bu; rfl; (focus (simp; done))) | ((with_reducible apply lc); (intro p; rfl); (intro p; rfl); rfl; kernel_rfl; (intro p; rfl); exact hln; (intro p; show List.length _ = 1; rfl); omega; exact fun p => fx (e2 := x.ln) (by simp only [aj.ln, List.append_assoc]; rfl); exact ⟨by decide, by decide⟩; exact bu; rfl; (focus (simp; done))) | (with_reducible refine DM.nil _ _ _ ?_) | refine c_ (fun hc => ?_) (fun hc => ?_) | refine g_ (fun hg => ?_) (fun hg => ?_))
  intro p hp
  clear hp
  refine eG (objs' := (so, (p 13).b, .row 1 (aT (L ++ [x.ln]))) :: (ss, bb, _) :: R) (by rw [show gL _ = [_, _] from rfl]; (try simp only [List.flatMap_cons, List.flatMap_nil, List.append_nil, List.append_assoc, List.cons_append, List.nil_append]); (try rfl)) ?_
  try dsimp only [Nat.reduceAdd]
  generalize Yu.b (p 13) = bz
  repeat' (first | refine W_ ?_ | refine c_ (fun hc => ?_) (fun hc => ?_) | refine g_ (fun hg => ?_) (fun hg => ?_))
  rw [<- hsn]
  exact ah (k + 1, bz) (by (try dsimp only); omega) (by (try dsimp only); omega) (.of _ (bX.envCons (dE rfl hsl.symm) nw_) od_ pk_)
 obtain rfl : k = m.contexts.length := by omega
 rw [List.take_length]
 have hp8 : (p7 ++ m.contexts.map aj.ln).length = p7.length + m.contexts.length := by rw [List.length_append, List.length_map]
 generalize hP8 : p7 ++ m.contexts.map aj.ln = p8 at hp8 |-
 repeat' (first | refine W_ ?_ | refine c_ (fun hc => ?_) (fun hc => ?_) | refine g_ (fun hg => ?_) (fun hg => ?_))
 apply ai (X := Nat × Nat) [1, 147, 148, 1000000] (fun x => [(3, .ms so x.2 0 (p8 ++ (m.processes.take x.1).map ap.ln).length), (149, .int .i64 (x.1 : Int))]) (fun x => (so, x.2, .row 1 (aT (p8 ++ (m.processes.take x.1).map ap.ln))) :: R) (fun x => x.1 <= m.processes.length) (fun x => m.processes.length - x.1) (0, b1) (Nat.zero_le _)
 ·exact kp_
 ·exact bX.envCons (dE rfl (by simp)) nw_
 ·exact aS (by simp [aT])
 rintro ⟨k, b1⟩ hk
 dsimp only at hk |-
 by_cases hlt : k < m.processes.length
 ·have hrow := mf (lo := lo) hlt
  have hln := aG (p8 ++ (m.processes.take k).map ap.ln)
  have hbd : (p8 ++ (m.processes.take k).map ap.ln).length <= 400000000 := by rw [List.length_append, List.length_map, List.length_take]; omega
  have hsn : (p8 ++ (m.processes.take (k + 1)).map ap.ln) = (p8 ++ (m.processes.take k).map ap.ln) ++ [ap.ln m.processes[k]] := by rw [bN hlt, List.append_assoc]
  have hsl : (p8 ++ (m.processes.take (k + 1)).map ap.ln).length = (p8 ++ (m.processes.take k).map ap.ln).length + 1 := by rw [hsn, List.length_append]; rfl
  generalize (p8 ++ (m.processes.take k).map ap.ln) = L at hln hbd hsn hsl |-
  have hxa : i64 m.processes[k].at_ := a5 _ (List.getElem_mem hlt)
  generalize m.processes[k] = x at hrow hsn hsl hxa
  have hline := fd ⟨#[112, 114, 111, 99, 101, 115, 115]⟩
  have c0 := fun u1 u2 u3 u4 => fP w0.heap.size [x.at_] (abB hxa) ([(⟨#[112, 114, 111, 99, 101, 115, 115]⟩ : ByteArray)]) (by simp <;> omega) u1 u2 u3 u4
  have c1 := fun u1 u2 u3 u4 => zQ x.main ([(⟨#[112, 114, 111, 99, 101, 115, 115]⟩ : ByteArray)] ++ ([x.at_].map ba)) (by simp <;> omega) u1 u2 u3 u4
  have hstr := e9 ⟨#[112, 114, 111, 99, 101, 115, 115]⟩ (([x.at_].map ba) ++ [gy x.main]) (by simp [dh] <;> omega) 2097200 (by decide) (by decide +kernel) (wo (zC (abB hxa)) (afa _))
  repeat' (first | refine W_ ?_ | (refine ak ?_; intro ss bb; refine bY (eS _ _ _) ?_) | refine ae ?_ | ((with_reducible apply fA (id := 27) 12); kernel_rfl; kernel_rfl; kernel_rfl; rfl; (repeat (first | exact Cut.zero _ | apply Cut.succ))) | ((with_reducible apply m_q); exact ym_; rfl; exact iH) | ((with_reducible apply eI); rfl; (intro p; try dsimp only); (repeat (first | exact TB.nil _ | ((with_reducible apply TB.cons); rfl; rfl; (first | exact .nil _ | exact .put _ _ _ _ _ (.nil _) | exact .skip _ _ _ _ _ (.put _ _ _ _ _ (.nil _)) | exact .skip _ _ _ _ _ (.skip _ _ _ _ _ (.put _ _ _ _ _ (.nil _))) | (repeat (first | exact .nil _ | apply bE.put | apply bE.skip))); kernel_rfl))); rfl; kernel_rfl; kernel_rfl; exact iH) | ((with_reducible apply jm); (intro p; rfl); rfl; kernel_rfl; kernel_rfl; rfl; kernel_rfl; rfl; (intro p; rfl); rfl; (intro p; rfl); exact iH) | ((with_reducible apply gr hG hline); rfl; kernel_rfl; (intro p; (repeat (first | exact ay.nil | ((with_reducible apply ay.cons); rfl))))) | ((with_reducible apply bG (i := 1) hG (fun p => c0 _ _ _ _)); rfl; kernel_rfl; (intro p; (repeat (first | exact ay.nil | ((with_reducible apply ay.cons); rfl)))); (intro p; rfl); exact fun _ => ah_; exact bu; exact bu; rfl; (focus (simp; done))) | ((with_reducible apply bG (i := 5) hG (fun p => c1 _ _ _ _)); rfl; kernel_rfl; (intro p; (repeat (first | exact ay.nil | ((with_reducible apply ay.cons); rfl)))); (intro p; rfl); exact fun _ => ah_; exact bu; exact bu; rfl; (focus (simp; done))) | ((with_reducible apply bG (i := 8) hG (fun p => hstr _ _ _ _)); rfl; kernel_rfl; (intro p; (repeat (first | exact ay.nil | ((with_reducible apply ay.cons); rfl)))); (intro p; rfl); exact fun _ => ah_; exact bu; exact bu; rfl; (focus (simp; done))) | ((with_reducible apply lc); (intro p; rfl); (intro p; rfl); rfl; kernel_rfl; (intro p; rfl); exact hln; (intro p; show List.length _ = 1; rfl); omega; exact fun p => fx (e2 := x.ln) (by rfl); exact ⟨by decide, by decide⟩; exact bu; rfl; (focus (simp; done))) | (with_reducible refine DM.nil _ _ _ ?_) | refine c_ (fun hc => ?_) (fun hc => ?_) | refine g_ (fun hg => ?_) (fun hg => ?_))
  intro p hp
  clear hp
  refine eG (objs' := (so, (p 11).b, .row 1 (aT (L ++ [x.ln]))) :: (ss, bb, _) :: R) (by rw [show gL _ = [_, _] from rfl]; (try simp only [List.flatMap_cons, List.flatMap_nil, List.append_nil, List.append_assoc, List.cons_append, List.nil_append]); (try rfl)) ?_
  try dsimp only [Nat.reduceAdd]
  generalize Yu.b (p 11) = bz
  repeat' (first | refine W_ ?_ | refine c_ (fun hc => ?_) (fun hc => ?_) | refine g_ (fun hg => ?_) (fun hg => ?_))
  rw [<- hsn]
  exact ah (k + 1, bz) (by (try dsimp only); omega) (by (try dsimp only); omega) (.of _ (bX.envCons (dE rfl hsl.symm) nw_) od_ pk_)
 obtain rfl : k = m.processes.length := by omega
 rw [List.take_length]
 have hp9 : (p8 ++ m.processes.map ap.ln).length = p8.length + m.processes.length := by rw [List.length_append, List.length_map]
 generalize hP9 : p8 ++ m.processes.map ap.ln = p9 at hp9 |-
 have y9 : m.fault.size <= 1048576 := hs.2.2.2.2.2.2.2
 have hb9 : p9.length <= 300000000 := by omega
 have hln := aG p9
 have hfin : ((p9 ++ [lnB ⟨#[114, 101, 97, 100, 121]⟩ (m.ready.map ba)]) ++ [lnB ⟨#[115, 116, 97, 116, 117, 115]⟩ [ba m.now, ba m.status, m.value.fmt]]) ++ [lnB ⟨#[102, 97, 117, 108, 116]⟩ [m.fault]] = m.lns := by rw [<- hP9, <- hP8, <- hP7, <- hP6, <- hP5, <- hP4]; simp [ao.lns, sa]
 have hfl : p9.length + 1 + 1 + 1 = m.lns.length := by rw [<- hfin]; simp
 have hline := fd ⟨#[114, 101, 97, 100, 121]⟩
 have c0 := fun u1 u2 u3 u4 => fP lo m.ready a6 ([(⟨#[114, 101, 97, 100, 121]⟩ : ByteArray)]) (by simp <;> omega) u1 u2 u3 u4
 have hstr := e9 ⟨#[114, 101, 97, 100, 121]⟩ (m.ready.map ba) (by simp [dh] <;> omega) 2097200 (by decide) (by decide +kernel) (zC a6)
 repeat' (first | refine W_ ?_ | ((with_reducible apply fA (id := 29) 8); kernel_rfl; kernel_rfl; kernel_rfl; rfl; (repeat (first | exact Cut.zero _ | apply Cut.succ))) | ((with_reducible apply m_q); exact ym_; rfl; exact iH) | ((with_reducible apply eI); rfl; (intro p; try dsimp only); (repeat (first | exact TB.nil _ | ((with_reducible apply TB.cons); rfl; rfl; (first | exact .nil _ | exact .put _ _ _ _ _ (.nil _) | exact .skip _ _ _ _ _ (.put _ _ _ _ _ (.nil _)) | exact .skip _ _ _ _ _ (.skip _ _ _ _ _ (.put _ _ _ _ _ (.nil _))) | (repeat (first | exact .nil _ | apply bE.put | apply bE.skip))); kernel_rfl))); rfl; kernel_rfl; kernel_rfl; exact iH) | ((with_reducible apply jm); (intro p; rfl); rfl; kernel_rfl; kernel_rfl; rfl; kernel_rfl; rfl; (intro p; rfl); rfl; (intro p; rfl); exact iH) | ((with_reducible apply gr hG hline); rfl; kernel_rfl; (intro p; (repeat (first | exact ay.nil | ((with_reducible apply ay.cons); rfl))))) | ((with_reducible apply bG (i := 1) hG (fun p => c0 _ _ _ _)); rfl; kernel_rfl; (intro p; (repeat (first | exact ay.nil | ((with_reducible apply ay.cons); rfl)))); (intro p; rfl); exact fun _ => ah_; exact bu; exact bu; rfl; (focus (simp; done))) | ((with_reducible apply bG (i := 4) hG (fun p => hstr _ _ _ _)); rfl; kernel_rfl; (intro p; (repeat (first | exact ay.nil | ((with_reducible apply ay.cons); rfl)))); (intro p; rfl); exact fun _ => ah_; exact bu; exact bu; rfl; (focus (simp; done))) | ((with_reducible apply lc); (intro p; rfl); (intro p; rfl); rfl; kernel_rfl; (intro p; rfl); exact hln; (intro p; show List.length _ = 1; rfl); omega; exact fun p => fx (e2 := lnB ⟨#[114, 101, 97, 100, 121]⟩ (m.ready.map ba)) (by rfl); exact ⟨by decide, by decide⟩; exact bu; rfl; (focus (simp; done))) | (with_reducible refine DM.nil _ _ _ ?_) | refine c_ (fun hc => ?_) (fun hc => ?_) | refine g_ (fun hg => ?_) (fun hg => ?_))
 intro p hp
 clear hp
 refine eG (objs' := (so, (p 7).b, .row 1 (aT (p9 ++ [lnB ⟨#[114, 101, 97, 100, 121]⟩ (m.ready.map ba)]))) :: R) (by rw [show gL _ = [_, _] from rfl]; (try simp only [List.flatMap_cons, List.flatMap_nil, List.append_nil, List.append_assoc, List.cons_append, List.nil_append]); (try rfl)) ?_
 try dsimp only [Nat.reduceAdd]
 generalize Yu.b (p 7) = bz
 repeat' (first | refine H_ 30 ?_ | refine c_ (fun hc => ?_) (fun hc => ?_) | refine g_ (fun hg => ?_) (fun hg => ?_))
 refine ⟨?_⟩
 clear hline c0 hstr
 have hln2 : (aT (p9 ++ [lnB ⟨#[114, 101, 97, 100, 121]⟩ (m.ready.map ba)])).length = p9.length + 1 := by rw [aG, List.length_append]; rfl
 generalize p9 ++ [lnB ⟨#[114, 101, 97, 100, 121]⟩ (m.ready.map ba)] = pa at hln2 hfin |-
 have hline := fd ⟨#[115, 116, 97, 116, 117, 115]⟩
 have c0 := fun u1 u2 u3 u4 => fP w0.heap.size [m.now, m.status] (afR a7 a8) ([(⟨#[115, 116, 97, 116, 117, 115]⟩ : ByteArray)]) (by simp <;> omega) u1 u2 u3 u4
 have c1 := fun u1 u2 u3 u4 => re m.value a9 hs.2.2.2.2.2.2.1 ([(⟨#[115, 116, 97, 116, 117, 115]⟩ : ByteArray)] ++ ([m.now, m.status].map ba)) (by simp <;> omega) u1 u2 u3 u4
 have hstr := e9 ⟨#[115, 116, 97, 116, 117, 115]⟩ (([m.now, m.status].map ba) ++ [ab.fmt m.value]) (by simp [dh] <;> omega) 2097200 (by decide) (by decide +kernel) (wo (zC (afR a7 a8)) (ael (fb m.value a9 hs.2.2.2.2.2.2.1)))
 repeat' (first | refine W_ ?_ | ((with_reducible apply fA (id := 30) 14); kernel_rfl; kernel_rfl; kernel_rfl; rfl; (repeat (first | exact Cut.zero _ | apply Cut.succ))) | ((with_reducible apply m_q); exact ym_; rfl; exact iH) | ((with_reducible apply eI); rfl; (intro p; try dsimp only); (repeat (first | exact TB.nil _ | ((with_reducible apply TB.cons); rfl; rfl; (first | exact .nil _ | exact .put _ _ _ _ _ (.nil _) | exact .skip _ _ _ _ _ (.put _ _ _ _ _ (.nil _)) | exact .skip _ _ _ _ _ (.skip _ _ _ _ _ (.put _ _ _ _ _ (.nil _))) | (repeat (first | exact .nil _ | apply bE.put | apply bE.skip))); kernel_rfl))); rfl; kernel_rfl; kernel_rfl; exact iH) | ((with_reducible apply jm); (intro p; rfl); rfl; kernel_rfl; kernel_rfl; rfl; kernel_rfl; rfl; (intro p; rfl); rfl; (intro p; rfl); exact iH) | ((with_reducible apply gr hG hline); rfl; kernel_rfl; (intro p; (repeat (first | exact ay.nil | ((with_reducible apply ay.cons); rfl))))) | ((with_reducible apply bG (i := 1) hG (fun p => c0 _ _ _ _)); rfl; kernel_rfl; (intro p; (repeat (first | exact ay.nil | ((with_reducible apply ay.cons); rfl)))); (intro p; rfl); exact fun _ => ah_; exact bu; exact bu; rfl; (focus (simp; done))) | ((with_reducible apply bG (i := 7) hG (fun p => c1 _ _ _ _)); rfl; kernel_rfl; (intro p; (repeat (first | exact ay.nil | ((with_reducible apply ay.cons); rfl)))); (intro p; rfl); exact fun _ => ah_; exact bu; exact bu; rfl; (focus (simp; done))) | ((with_reducible apply bG (i := 10) hG (fun p => hstr _ _ _ _)); rfl; kernel_rfl; (intro p; (repeat (first | exact ay.nil | ((with_reducible apply ay.cons); rfl)))); (intro p; rfl); exact fun _ => ah_; exact bu; exact bu; rfl; (focus (simp; done))) | ((with_reducible apply lc); (intro p; rfl); (intro p; rfl); rfl; kernel_rfl; (intro p; rfl); exact hln2; (intro p; show List.length _ = 1; rfl); omega; exact fun p => fx (e2 := lnB ⟨#[115, 116, 97, 116, 117, 115]⟩ [ba m.now, ba m.status, m.value.fmt]) (by rfl); exact ⟨by decide, by decide⟩; exact bu; rfl; (focus (simp; done))) | (with_reducible refine DM.nil _ _ _ ?_) | refine c_ (fun hc => ?_) (fun hc => ?_) | refine g_ (fun hg => ?_) (fun hg => ?_))
 intro p hp
 clear hp
 refine eG (objs' := (so, (p 13).b, .row 1 (aT (pa ++ [lnB ⟨#[115, 116, 97, 116, 117, 115]⟩ [ba m.now, ba m.status, m.value.fmt]]))) :: R) (by rw [show gL _ = [_, _] from rfl]; (try simp only [List.flatMap_cons, List.flatMap_nil, List.append_nil, List.append_assoc, List.cons_append, List.nil_append]); (try rfl)) ?_
 try dsimp only [Nat.reduceAdd]
 generalize Yu.b (p 13) = bz
 repeat' (first | refine H_ 31 ?_ | refine c_ (fun hc => ?_) (fun hc => ?_) | refine g_ (fun hg => ?_) (fun hg => ?_))
 refine ⟨?_⟩
 have hln3 : (aT (pa ++ [lnB ⟨#[115, 116, 97, 116, 117, 115]⟩ [ba m.now, ba m.status, m.value.fmt]])).length = p9.length + 1 + 1 := by rw [aG, List.length_append, <- aG pa, hln2]; rfl
 generalize pa ++ [lnB ⟨#[115, 116, 97, 116, 117, 115]⟩ [ba m.now, ba m.status, m.value.fmt]] = pb at hln3 hfin |-
 repeat' (first | refine W_ ?_ | refine ch ?_ | ((with_reducible apply bx); rfl; rfl; rfl; kernel_rfl; (repeat (first | with_reducible exact mh | with_reducible refine mt ?_)); exact hln3; exact (rfl : _ = 1); omega; exact fx (e2 := lnB ⟨#[102, 97, 117, 108, 116]⟩ [m.fault]) (by rfl); (intro bq; (repeat (first | with_reducible exact Upd.head _ | with_reducible apply Upd.tail))); intro bb) | refine c_ (fun hc => ?_) (fun hc => ?_) | refine g_ (fun hg => ?_) (fun hg => ?_))
 rw [hfin, hfl]
 exact az x_ rfl (so, bb) trivial rfl (.cons _ _ _ _ (.nil R)) pk_ (.tmp _ _ rfl) rfl
theorem fG (lo : Nat) (m : ao) (hm : m.sane) (hsm : m.small 1048576) : CtM Tryz.prog GF 16 [.agg (m.tw lo)] [] (fun _ : Nat × Nat => True) (fun y => [(y.1, y.2, .row 1 (aT (cN m)))]) (fun y => .ms y.1 y.2 0 (cN m).length) := by
 refine aB Tryz.func16 rfl Tryz.ntmps16 rfl rfl rfl fun w0 R gs objsR hG hR => ?_
 obtain rfl := hR.inv0
 clear hR
 have hst := fp
 have hct := (qj lo m hsm).monoF (G2 := GF) fun _ h => h.1
 unfold cN
 cases hV : ez m with
 | false =>
   rw [hV] at hct
   rw [if_neg (by simp)]
   unfold ao.tw at hct |-
   repeat' (first | refine W_ ?_ | refine aJ ?_ | refine ac hG hst (hct) ?_ | refine c_ (fun hc => ?_) (fun hc => ?_) | refine g_ (fun hg => ?_) (fun hg => ?_))
   refine ek 2 1 (by omega) rfl fun ss => az x_ rfl (ss, 0) trivial rfl (.cons _ _ _ _ (.nil R)) pk_ (.tmp _ _ rfl) rfl
 | true =>
   rw [hV] at hct
   rw [if_pos rfl]
   have hb := pj lo m hm hsm (ka hV)
   unfold ao.tw at hct hb |-
   repeat' (first | refine W_ ?_ | refine aJ ?_ | refine ac hG hst (hct) ?_ | ((with_reducible apply aE); rfl; kernel_rfl; (repeat (first | exact ay.nil | ((with_reducible apply ay.cons); rfl))); exact hG; exact hb; exact .nil _; intro y hy; refine bF ?_) | refine c_ (fun hc => ?_) (fun hc => ?_) | refine g_ (fun hg => ?_) (fun hg => ?_))
   exact az x_ rfl y trivial rfl (.cons _ _ _ _ (.nil R)) pk_ (.tmp _ _ rfl) rfl
end Go.Proofs.YtigipcbnfeoliaaGreatDoor
