/- Part 45 of the proof: the texts FiC. -/
import Derived.Test.YtigipcbnfeoliaaGreatDoorFi3
import Derived.Test.YtigipcbnfeoliaaGreatDoorFi39
import Derived.Test.YtigipcbnfeoliaaGreatDoorFi42
set_option linter.all false
set_option maxHeartbeats 8000000
set_option maxRecDepth 20000
namespace Go.Proofs.YtigipcbnfeoliaaGreatDoor
open Go Go.RowKit
theorem Ct.monoF {P : Program} {G G2 : World -> Prop} {f : FuncId} {args : List TV} {r : Nat -> TV} (h : Ct P G f args r) (hg : ∀ w, G2 w -> G w) : Ct P G2 f args r := fun w vs h0 h1 => h w vs h0 (hg w h1)
theorem aa0 (l : List ByteArray) : ∀ y : Nat × Nat, True -> (∀ s b o, (s, b, o) ∈ [(y.1, y.2, bv.row 1 (aT l))] -> kC [(y.1, y.2, bv.row 1 (aT l))] o) /\ jy [(y.1, y.2, bv.row 1 (aT l))] (.ms y.1 y.2 0 l.length) := fun y _ =>
 ⟨fun s b o h => by
   simp only [List.mem_singleton, Prod.mk.injEq] at h
   obtain ⟨_, _, rfl⟩ := h
   exact rC (uy _), .ms _ _ _ _ _ _ List.mem_cons_self⟩
theorem ut (L M : List ByteArray) : aT L ++ aT M = aT (L ++ M) := by simp [aT]
theorem oJ (v : Bool) : (lnB ⟨#[]⟩ [gy v]).size <= 3 := by cases v <;> decide +kernel
theorem qp {l : List ab} (h1 : ∀ y ∈ l, y.sane) (h2 : ∀ y ∈ l, ab.small 1048576 y) : ∀ v ∈ l, v.sane /\ v.text.size <= 1048576 := fun v hv => ⟨h1 v hv, h2 v hv⟩
theorem xv {lo : Nat} {l : List av} {i : Nat} (h : i < l.length) : (l.map (av.tw lo))[i]? = some [.int .i64 l[i].owner, .bool l[i].class_, .str l[i].selector, .int .i64 l[i].code] := aL h
theorem ue {lo : Nat} {l : List aw} {i : Nat} (h : i < l.length) : (l.map (aw.tw lo))[i]? = some [.bool l[i].block, .int .i64 l[i].params, .int .i64 l[i].slots, .sl lo 4 (l[i].instrs.map (ag.tw lo))] := aL h
theorem ua {α β : Type} {f : α -> List β} {l : List α} {k : Nat} (h : k < l.length) : (l.take (k + 1)).flatMap f = (l.take k).flatMap f ++ f l[k] := by
 rw [List.take_add_one, List.getElem?_eq_getElem h, Option.toList_some, List.flatMap_append]; simp
theorem ra (lo : Nat) (c : aj) (hc : c.sane) (hs : c.small 1048576) : Ct Tryz.prog GF 149 [.agg (c.tw lo)] (fun _ => .str c.ln) := by
 refine aq Tryz.func149 rfl Tryz.ntmps149 rfl rfl fun w0 _ hG => ?_
 have hst := fp
 obtain ⟨a1, a2, a3, a4, a5, a6, a7, a8, a9, a10, a11⟩ := hc
 obtain ⟨b1, b2, b3, b4⟩ := hs
 have hl : ∀ n ∈ [c.mark, c.code, c.pc, c.sender, c.outer, c.home, c.other], i64 n := by simp [a1, a2, a3, a4, a5, a6, a11]
 have hi := eH fp w0.heap.size _ hl (by simp)
 have zi := fm _ hl
 simp only [List.length_cons, List.length_nil] at zi
 have hf := mq (G := GF) c.retry
 have zf := oJ c.retry
 have hv := nD c.self a7 b1
 have zv := fb c.self a7 b1
 have h1 := f8 lo c.slots (fun v hv => ⟨a8 v hv, b2.2 v hv⟩) b2.1
 have z1 := jb c.slots (fun v hv => ⟨a8 v hv, b2.2 v hv⟩) b2.1
 have h2 := f8 lo c.stack (fun v hv => ⟨a9 v hv, b3.2 v hv⟩) b3.1
 have z2 := jb c.stack (fun v hv => ⟨a9 v hv, b3.2 v hv⟩) b3.1
 have h3 := f8 lo c.values (fun v hv => ⟨a10 v hv, b4.2 v hv⟩) b4.1
 have z3 := jb c.values (fun v hv => ⟨a10 v hv, b4.2 v hv⟩) b4.1
 generalize e1 : lnB ⟨#[]⟩ ([c.mark, c.code, c.pc, c.sender, c.outer, c.home, c.other].map ba) = A at hi zi
 generalize e2 : lnB ⟨#[]⟩ [gy c.retry] = B at hf zf
 generalize e4 : lnB ⟨#[]⟩ (dh c.slots) = D at h1 z1
 generalize e5 : lnB ⟨#[]⟩ (dh c.stack) = E at h2 z2
 generalize e6 : lnB ⟨#[]⟩ (dh c.values) = H at h3 z3
 unfold aj.tw
 repeat' (first | refine V_ ?_ | refine aJ ?_ | refine lh ?_ | refine ad hG hst (hi) ?_ | refine ad hG hst (hf) ?_ | refine ad hG hst (hv) ?_ | refine ad hG hst (h1) ?_ | refine ad hG hst (h2) ?_ | refine ad hG hst (h3) ?_ | refine c_ (fun hc => ?_) (fun hc => ?_) | refine g_ (fun hg => ?_) (fun hg => ?_))
 refine aD x_ rfl (.tmp _ _ rfl) (fun _ => ?_)
 refine mg ?_
 rw [<- e1, <- e2, <- e4, <- e5, <- e6]
 simp only [mT, aj.ln, aaJ]
 rfl
theorem uW (f lo : Nat) (b : aA) (hb : b.sane) (hs : b.small 1048576) (hc : b.codes.length <= 200) : CtM Tryz.prog GF 145 [.cp f (b.tw lo)] [] (fun _ : Nat × Nat => True) (fun y => [(y.1, y.2, .row 1 (aT b.lns))]) (fun y => .ms y.1 y.2 0 b.lns.length) := by
 refine aB Tryz.func145 rfl Tryz.ntmps145 rfl rfl rfl fun w0 R gs objsR hG hR => ?_
 obtain rfl := hR.inv0
 clear hR
 have hst := fp
 obtain ⟨a1, a2, a3, a4⟩ := hb
 have hc1 := aa.len lo b.classes
 have hc2 := aw.len lo b.codes
 have hc3 := av.len lo b.entries
 have z1 := hs.1.1
 have z3 := hs.2.2.1
 have hmn := eu (G := GF) b.main a4
 have zmn := cK a4
 unfold aA.tw
 repeat' (first | refine W_ ?_ | ((with_reducible apply vU (n := 0)); rfl; rfl; kernel_rfl; kernel_rfl; rfl; kernel_rfl; rfl; rfl; rfl; rfl; intro ss bb) | refine c_ (fun hc => ?_) (fun hc => ?_) | refine g_ (fun hg => ?_) (fun hg => ?_))
 generalize ss = so; generalize bb = b0
 apply ai (X := Nat × Nat) [0, 1000000] (fun x => [(3, .ms so x.2 0 ((b.classes.take x.1).map aa.ln).length), (4, .int .i64 (x.1 : Int))]) (fun x => (so, x.2, .row 1 (aT ((b.classes.take x.1).map aa.ln))) :: R) (fun x => x.1 <= b.classes.length) (fun x => b.classes.length - x.1) (0, b0) (Nat.zero_le _)
 ·exact kp_
 ·exact bX.envCons (dE rfl (by simp)) nw_
 ·exact aS (by simp [aT])
 rintro ⟨k, b1⟩ hk
 dsimp only at hk |-
 by_cases hlt : k < b.classes.length
 ·have hrow := gu (lo := lo) hlt
  have hxs := hs.1.2 _ (List.getElem_mem hlt)
  have hxp := (a1 _ (List.getElem_mem hlt)).2.1
  have hfm := eu (G := GF) _ hxp
  have zp := cK hxp
  have zn := hxs.1
  have hln := aG ((b.classes.take k).map aa.ln)
  have hbd : ((b.classes.take k).map aa.ln).length <= 400000000 := by rw [List.length_map, List.length_take]; omega
  have hsn : ((b.classes.take (k + 1)).map aa.ln) = ((b.classes.take k).map aa.ln) ++ [aa.ln b.classes[k]] := by rw [bN hlt]
  have hsl : ((b.classes.take (k + 1)).map aa.ln).length = ((b.classes.take k).map aa.ln).length + 1 := by rw [hsn, List.length_append]; rfl
  generalize ((b.classes.take k).map aa.ln) = L at hln hbd hsn hsl |-
  generalize b.classes[k] = x at hrow hsn hsl hxs hxp hfm zp zn
  repeat' (first | refine V_ ?_ | (refine ak ?_; intro ss bb) | refine ae ?_ | refine lh ?_ | refine ad hG hst (hfm) ?_ | refine c_ (fun hc => ?_) (fun hc => ?_) | refine g_ (fun hg => ?_) (fun hg => ?_))
  generalize ss = s5; generalize bb = b5
  have hxl := aG x.fields
  have hxm := hxs.2.1
  apply ai (X := Nat) [0, 3, 4, 5, 1000000] (fun j => [(6, .str (lnB ⟨#[99, 108, 97, 115, 115]⟩ ([x.name, ba x.parent] ++ x.fields.take j))), (7, .int .i64 (j : Int))]) (fun _ => (s5, b5, .box [.str x.name, .int .i64 x.parent, .sl lo 1 (aT x.fields)]) :: (so, b1, .row 1 (aT L)) :: R) (fun j => j <= x.fields.length) (fun j => x.fields.length - j) 0 (Nat.zero_le _)
  ·exact kp_
  ·exact bX.envCons (qA rfl rfl) (bX.envCons rfl nw_)
  ·exact .refl _
  intro j hj
  try dsimp only
  by_cases hjl : j < x.fields.length
  ·have hr2 := cB hjl
   have hz := kX 1048576 ([x.name, ba x.parent] ++ x.fields.take j) (fun y hy => by
     simp only [List.mem_append, List.mem_cons, List.not_mem_nil, or_false] at hy
     rcases hy with (rfl | rfl) | hy
     ·exact hxs.1
     ·omega
     ·exact hxs.2.2 _ (List.mem_of_mem_take hy)) ⟨#[99, 108, 97, 115, 115]⟩
   simp only [List.length_append, List.length_cons, List.length_nil, List.length_take, uA, List.size_toArray] at hz
   have hyz := hxs.2.2 _ (List.getElem_mem hjl)
   have hsn2 : lnB ⟨#[99, 108, 97, 115, 115]⟩ ([x.name, ba x.parent] ++ x.fields.take (j + 1)) = lnB ⟨#[99, 108, 97, 115, 115]⟩ ([x.name, ba x.parent] ++ x.fields.take j) ++ ⟨#[32]⟩ ++ x.fields[j] := by
     rw [List.take_add_one, List.getElem?_eq_getElem hjl, Option.toList_some, <- List.append_assoc]; exact rL _ _ _
   generalize x.fields[j] = y at hr2 hyz hsn2
   generalize lnB ⟨#[99, 108, 97, 115, 115]⟩ ([x.name, ba x.parent] ++ x.fields.take j) = A at hz hsn2 |-
   repeat' (first | refine W_ ?_ | refine c_ (fun hc => ?_) (fun hc => ?_) | refine g_ (fun hg => ?_) (fun hg => ?_))
   exact ah (j + 1) (by omega) (by omega) (.of _ (bX.envCons (qA rfl hsn2.symm) (bX.envCons rfl nw_)) od_ pk_)
  obtain rfl : j = x.fields.length := by omega
  rw [List.take_length]
  repeat' (first | refine W_ ?_ | refine ch ?_ | ((with_reducible apply bx); rfl; rfl; rfl; kernel_rfl; (repeat (first | with_reducible exact mh | with_reducible refine mt ?_)); exact hln; exact (rfl : _ = 1); omega; exact fx (e2 := x.ln) (by rfl); (intro bq; (repeat (first | with_reducible exact Upd.head _ | with_reducible apply Upd.tail))); intro bb) | refine c_ (fun hc => ?_) (fun hc => ?_) | refine g_ (fun hg => ?_) (fun hg => ?_))
  rw [<- hsn]
  exact ah (k + 1, bb) (by (try dsimp only); omega) (by (try dsimp only); omega) (.of _ (bX.envCons (dE rfl hsl.symm) nw_) od_ pk_)
 obtain rfl : k = b.classes.length := by omega
 rw [List.take_length]
 repeat' (first | refine W_ ?_ | refine c_ (fun hc => ?_) (fun hc => ?_) | refine g_ (fun hg => ?_) (fun hg => ?_))
 apply ai (X := Nat × Nat) [0, 1000000] (fun x => [(3, .ms so x.2 0 (b.classes.map aa.ln ++ (b.codes.take x.1).flatMap aw.lns).length), (8, .int .i64 (x.1 : Int))]) (fun x => (so, x.2, .row 1 (aT (b.classes.map aa.ln ++ (b.codes.take x.1).flatMap aw.lns))) :: R) (fun x => x.1 <= b.codes.length) (fun x => b.codes.length - x.1) (0, b1) (Nat.zero_le _)
 ·exact kp_
 ·exact bX.envCons (dE rfl (by simp)) nw_
 ·exact aS (by simp [aT])
 rintro ⟨k, b1⟩ hk
 dsimp only at hk |-
 by_cases hlt : k < b.codes.length
 ·have hrow := ue (lo := lo) hlt
  have hfc := aaT lo b.codes[k] (a2 _ (List.getElem_mem hlt)) (hs.2.1.2 _ (List.getElem_mem hlt))
  have hl2 := aG b.codes[k].lns
  have hl3 : b.codes[k].lns.length <= 1048577 := by have := (hs.2.1.2 _ (List.getElem_mem hlt)).1; simp only [aw.lns, List.length_cons, List.length_map]; omega
  unfold aw.tw at hfc
  have hln := aG (b.classes.map aa.ln ++ (b.codes.take k).flatMap aw.lns)
  have hbd : (b.classes.map aa.ln ++ (b.codes.take k).flatMap aw.lns).length <= 400000000 := by have := fM (b.codes.take k) (fun y hy => hs.2.1.2 y (List.mem_of_mem_take hy)); have h5 : (b.codes.take k).length * (1048576 + 1) <= 200 * (1048576 + 1) := Nat.mul_le_mul_right _ (by rw [List.length_take]; omega); simp only [List.length_append, List.length_map]; omega
  have hsn : (b.classes.map aa.ln ++ (b.codes.take (k + 1)).flatMap aw.lns) = (b.classes.map aa.ln ++ (b.codes.take k).flatMap aw.lns) ++ (aw.lns b.codes[k]) := by rw [ua hlt, List.append_assoc]
  have hsl : (b.classes.map aa.ln ++ (b.codes.take (k + 1)).flatMap aw.lns).length = (b.classes.map aa.ln ++ (b.codes.take k).flatMap aw.lns).length + (aw.lns b.codes[k]).length := by rw [hsn, List.length_append]
  generalize (b.classes.map aa.ln ++ (b.codes.take k).flatMap aw.lns) = L at hln hbd hsn hsl |-
  generalize b.codes[k] = x at hrow hsn hsl hfc hl2 hl3
  repeat' (first | refine W_ ?_ | refine ac hG hst (hfc) ?_ | ((with_reducible apply bx); rfl; rfl; rfl; kernel_rfl; (repeat (first | with_reducible exact mh | with_reducible refine mt ?_)); exact hln; exact hl2; omega; exact ut _ _; (intro bq; (repeat (first | with_reducible exact Upd.head _ | with_reducible apply Upd.tail))); intro bb) | refine c_ (fun hc => ?_) (fun hc => ?_) | refine g_ (fun hg => ?_) (fun hg => ?_))
  rw [<- hsn]
  exact ah (k + 1, bb) (by (try dsimp only); omega) (by (try dsimp only); omega) (.of _ (bX.envCons (dE rfl hsl.symm) nw_) od_ pk_)
 obtain rfl : k = b.codes.length := by omega
 rw [List.take_length]
 have hp3 : (b.classes.map aa.ln ++ b.codes.flatMap aw.lns).length <= 211000000 := by
   have := fM b.codes hs.2.1.2
   have h5 : b.codes.length * (1048576 + 1) <= 200 * (1048576 + 1) := Nat.mul_le_mul_right _ hc
   simp only [List.length_append, List.length_map]; omega
 generalize hP3 : b.classes.map aa.ln ++ b.codes.flatMap aw.lns = p3 at hp3 |-
 repeat' (first | refine W_ ?_ | refine c_ (fun hc => ?_) (fun hc => ?_) | refine g_ (fun hg => ?_) (fun hg => ?_))
 apply ai (X := Nat × Nat) [0, 1000000] (fun x => [(3, .ms so x.2 0 (p3 ++ (b.entries.take x.1).map av.ln).length), (9, .int .i64 (x.1 : Int))]) (fun x => (so, x.2, .row 1 (aT (p3 ++ (b.entries.take x.1).map av.ln))) :: R) (fun x => x.1 <= b.entries.length) (fun x => b.entries.length - x.1) (0, b1) (Nat.zero_le _)
 ·exact kp_
 ·exact bX.envCons (dE rfl (by simp)) nw_
 ·exact aS (by simp [aT])
 rintro ⟨k, b1⟩ hk
 dsimp only at hk |-
 by_cases hlt : k < b.entries.length
 ·have hrow := xv (lo := lo) hlt
  have hxs := hs.2.2.2 _ (List.getElem_mem hlt)
  have hxo := (a3 _ (List.getElem_mem hlt)).1
  have hxc := (a3 _ (List.getElem_mem hlt)).2.2
  have h1 := eu (G := GF) _ hxo
  have h2 := eu (G := GF) _ hxc
  have h4 := mq (G := GF) b.entries[k].class_
  have y1 := cK hxo
  have y2 := cK hxc
  have y4 := oJ b.entries[k].class_
  have y3 : b.entries[k].selector.size <= 1048576 := hxs
  have hln := aG (p3 ++ (b.entries.take k).map av.ln)
  have hbd : (p3 ++ (b.entries.take k).map av.ln).length <= 400000000 := by rw [List.length_append, List.length_map, List.length_take]; omega
  have hsn : (p3 ++ (b.entries.take (k + 1)).map av.ln) = (p3 ++ (b.entries.take k).map av.ln) ++ [av.ln b.entries[k]] := by rw [bN hlt, List.append_assoc]
  have hsl : (p3 ++ (b.entries.take (k + 1)).map av.ln).length = (p3 ++ (b.entries.take k).map av.ln).length + 1 := by rw [hsn, List.length_append]; rfl
  generalize (p3 ++ (b.entries.take k).map av.ln) = L at hln hbd hsn hsl |-
  generalize b.entries[k] = x at hrow hsn hsl h1 h2 h4 y1 y2 y3 y4
  generalize e4 : lnB ⟨#[]⟩ [gy x.class_] = A4 at h4 y4
  repeat' (first | refine W_ ?_ | (refine ak ?_; intro ss bb) | refine ae ?_ | ((with_reducible apply dP (id := 20) 19); kernel_rfl; kernel_rfl; kernel_rfl; (repeat (first | exact Cut.zero _ | apply Cut.succ))) | with_reducible refine dV (by kernel_rfl) (by kernel_rfl) ?_ | with_reducible refine fO ?_ | with_reducible refine d7 ?_ | with_reducible refine dW rfl ?_ | refine fT rfl rfl rfl rr_ ?_ | refine dX rfl rfl rfl rr_ rfl rfl rfl ?_ | refine cT rfl rfl rfl rr_ rfl rfl ?_ | (refine jX rfl rfl rfl rr_ dd_ ?_) | (refine j2 rfl rfl rfl rr_ dd_ ?_) | (refine ce rfl rfl rfl rr_ (fun hg => ?_) (fun hg => ?_)) | (refine bR rfl rfl rfl rr_ (fun hg => ?_) (fun hg => ?_)) | ((with_reducible apply d_y); exact y_; rfl) | refine lh ?_ | refine ad hG hst (h1) ?_ | refine ad hG hst (h2) ?_ | refine ad hG hst (h4) ?_ | refine ch ?_ | ((with_reducible apply bx); rfl; rfl; rfl; kernel_rfl; (repeat (first | with_reducible exact mh | with_reducible refine mt ?_)); exact hln; exact (rfl : _ = 1); omega; exact fx (e2 := x.ln) (by rw [<- e4, mT]; rfl); (intro bq; (repeat (first | with_reducible exact Upd.head _ | with_reducible apply Upd.tail))); intro bb) | refine c_ (fun hc => ?_) (fun hc => ?_) | refine g_ (fun hg => ?_) (fun hg => ?_))
  rw [<- hsn]
  exact ah (k + 1, bb) (by (try dsimp only); omega) (by (try dsimp only); omega) (.of _ (bX.envCons (dE rfl hsl.symm) nw_) od_ pk_)
 obtain rfl : k = b.entries.length := by omega
 rw [List.take_length]
 have hln := aG (p3 ++ b.entries.map av.ln)
 have hbd : (p3 ++ b.entries.map av.ln).length <= 400000000 := by rw [List.length_append, List.length_map]; omega
 have hfin : (p3 ++ b.entries.map av.ln) ++ [lnB ⟨#[109, 97, 105, 110]⟩ [ba b.main]] = b.lns := by rw [<- hP3]; simp [aA.lns]
 have hfl : (p3 ++ b.entries.map av.ln).length + 1 = b.lns.length := by rw [<- hfin, List.length_append (bs := [_])]; rfl
 generalize p3 ++ b.entries.map av.ln = L at hln hbd hfin hfl |-
 repeat' (first | refine W_ ?_ | refine ac hG hst (hmn) ?_ | refine ch ?_ | ((with_reducible apply bx); rfl; rfl; rfl; kernel_rfl; (repeat (first | with_reducible exact mh | with_reducible refine mt ?_)); exact hln; exact (rfl : _ = 1); omega; exact fx (e2 := lnB ⟨#[109, 97, 105, 110]⟩ [ba b.main]) (by rfl); (intro bq; (repeat (first | with_reducible exact Upd.head _ | with_reducible apply Upd.tail))); intro bb) | refine c_ (fun hc => ?_) (fun hc => ?_) | refine g_ (fun hg => ?_) (fun hg => ?_))
 rw [hfin, hfl]
 exact az x_ rfl (so, bb) trivial rfl (.cons _ _ _ _ (.nil R)) pk_ (.tmp _ _ rfl) rfl
theorem uf (f lo : Nat) (m : ao) (hm : m.sane) (hs : m.small 1048576) (hc : m.base.codes.length <= 200) : CtM Tryz.prog GF 72 [.cp f (m.tw lo)] [] (fun _ : Nat × Nat => True) (fun y => [(y.1, y.2, .row 1 (aT m.lns))]) (fun y => .ms y.1 y.2 0 m.lns.length) := by
 refine aB Tryz.func72 rfl Tryz.ntmps72 rfl rfl rfl fun w0 R gs objsR hG hR => ?_
 obtain rfl := hR.inv0
 clear hR
 have hst := fp
 obtain ⟨a1, a2, a3, a4, a5, a6, a7, a8, a9, a10⟩ := hm
 have hbs := uW 0 lo m.base a1 hs.1 hc
 have hnew := aa0 m.base.lns
 have hbl := lS hs.1 hc
 have z0 := hs.2.1.2.2.1
 have z1 := hs.2.1.2.1.1
 have z2 := hs.2.2.1.1
 have z3 := hs.2.2.2.1.1
 have z4 := hs.2.2.2.2.1.1
 have z5 := hs.2.2.2.2.2.1
 have c0 := aG m.store.output
 have c1 := au.len lo m.store.objects
 have c2 := am.len lo m.blocks
 have c3 := aj.len lo m.contexts
 have c4 := ap.len lo m.processes
 have hsl : ∀ n ∈ [m.store.budget, m.store.ticks, m.store.made], i64 n := by simp [a2.2.2.2.1, a2.2.2.2.2.1, a2.2.2.2.2.2]
 have h1 := eH fp w0.heap.size _ hsl (by simp)
 have y1 := fm _ hsl
 simp only [List.length_cons, List.length_nil] at y1
 generalize e1 : lnB ⟨#[]⟩ ([m.store.budget, m.store.ticks, m.store.made].map ba) = A1 at h1 y1
 have hln := aG m.base.lns
 unfold ao.tw
 unfold aA.tw at hbs
 repeat' (first | refine H_ 2 ?_ | ((with_reducible apply fc); rfl; kernel_rfl; exact hG; exact hst; exact hbs; ((repeat (first | exact dg.nil | ((with_reducible apply dg.cons); rfl; (first | with_reducible exact cz.same _ | ((with_reducible apply cz.msAll); (repeat (first | with_reducible exact mh | with_reducible refine mt ?_)); (first | with_reducible assumption | exact aW _ | exact ar _ | exact aV _ | exact List.length_map _ | assumption | rfl)) | ((with_reducible apply dM); (repeat (first | with_reducible exact mh | with_reducible refine mt ?_)); (first | with_reducible assumption | exact aW _ | exact ar _ | exact aV _ | exact List.length_map _ | assumption | rfl)) | ((with_reducible apply cz.cut); exact cz.cp0 _ _; rfl)))))); exact hnew; rintro ⟨ss, bb⟩ -; refine bF ?_) | refine c_ (fun hc => ?_) (fun hc => ?_) | refine g_ (fun hg => ?_) (fun hg => ?_))
 refine ⟨?_⟩
 generalize ss = so; generalize bb = b0
 repeat' (first | refine W_ ?_ | ((with_reducible apply dP (id := 2) 20); kernel_rfl; kernel_rfl; kernel_rfl; (repeat (first | exact Cut.zero _ | apply Cut.succ))) | with_reducible refine dV (by kernel_rfl) (by kernel_rfl) ?_ | with_reducible refine fO ?_ | with_reducible refine d7 ?_ | with_reducible refine dW rfl ?_ | refine fT rfl rfl rfl rr_ ?_ | refine dX rfl rfl rfl rr_ rfl rfl rfl ?_ | refine cT rfl rfl rfl rr_ rfl rfl ?_ | (refine jX rfl rfl rfl rr_ dd_ ?_) | (refine j2 rfl rfl rfl rr_ dd_ ?_) | (refine ce rfl rfl rfl rr_ (fun hg => ?_) (fun hg => ?_)) | (refine bR rfl rfl rfl rr_ (fun hg => ?_) (fun hg => ?_)) | ((with_reducible apply d_y); exact y_; rfl) | refine lh ?_ | refine ad hG hst (h1) ?_ | ((with_reducible apply bx); rfl; rfl; rfl; kernel_rfl; (repeat (first | with_reducible exact mh | with_reducible refine mt ?_)); exact hln; exact (rfl : _ = 1); omega; exact fx (e2 := lnB ⟨#[115, 116, 111, 114, 101]⟩ [ba m.store.budget, ba m.store.ticks, ba m.store.made]) (by rw [<- e1, mT]; rfl); (intro bq; (repeat (first | with_reducible exact Upd.head _ | with_reducible apply Upd.tail))); intro bb) | refine c_ (fun hc => ?_) (fun hc => ?_) | refine g_ (fun hg => ?_) (fun hg => ?_))
 have hp4 : m.base.lns.length + 1 = (m.base.lns ++ [lnB ⟨#[115, 116, 111, 114, 101]⟩ [ba m.store.budget, ba m.store.ticks, ba m.store.made]]).length := by rw [List.length_append]; rfl
 rw [hp4]
 clear hln
 generalize hP4 : m.base.lns ++ [lnB ⟨#[115, 116, 111, 114, 101]⟩ [ba m.store.budget, ba m.store.ticks, ba m.store.made]] = p4 at hp4 |-
 apply ai (X := Nat × Nat) [0, 1000000] (fun x => [(3, .ms so x.2 0 (p4 ++ (m.store.output.take x.1).map eT).length), (4, .int .i64 (x.1 : Int))]) (fun x => (so, x.2, .row 1 (aT (p4 ++ (m.store.output.take x.1).map eT))) :: R) (fun x => x.1 <= m.store.output.length) (fun x => m.store.output.length - x.1) (0, bb) (Nat.zero_le _)
 ·exact kp_
 ·exact bX.envCons (dE rfl (by simp)) nw_
 ·exact aS (by simp [aT])
 rintro ⟨k, b1⟩ hk
 dsimp only at hk |-
 by_cases hlt : k < m.store.output.length
 ·have hrow := cB hlt
  have hz : m.store.output[k].size <= 1048576 := hs.2.1.2.2.2 _ (List.getElem_mem hlt)
  have hln := aG (p4 ++ (m.store.output.take k).map eT)
  have hbd : (p4 ++ (m.store.output.take k).map eT).length <= 400000000 := by rw [List.length_append, List.length_map, List.length_take]; omega
  have hsn : (p4 ++ (m.store.output.take (k + 1)).map eT) = (p4 ++ (m.store.output.take k).map eT) ++ [eT m.store.output[k]] := by rw [bN hlt, List.append_assoc]
  have hsl : (p4 ++ (m.store.output.take (k + 1)).map eT).length = (p4 ++ (m.store.output.take k).map eT).length + 1 := by rw [hsn, List.length_append]; rfl
  generalize (p4 ++ (m.store.output.take k).map eT) = L at hln hbd hsn hsl |-
  generalize m.store.output[k] = x at hrow hsn hsl hz
  repeat' (first | refine W_ ?_ | refine ch ?_ | ((with_reducible apply bx); rfl; rfl; rfl; kernel_rfl; (repeat (first | with_reducible exact mh | with_reducible refine mt ?_)); exact hln; exact (rfl : _ = 1); omega; exact fx (e2 := eT x) (by rfl); (intro bq; (repeat (first | with_reducible exact Upd.head _ | with_reducible apply Upd.tail))); intro bb) | refine c_ (fun hc => ?_) (fun hc => ?_) | refine g_ (fun hg => ?_) (fun hg => ?_))
  rw [<- hsn]
  exact ah (k + 1, bb) (by (try dsimp only); omega) (by (try dsimp only); omega) (.of _ (bX.envCons (dE rfl hsl.symm) nw_) od_ pk_)
 obtain rfl : k = m.store.output.length := by omega
 rw [List.take_length]
 have hp5 : (p4 ++ m.store.output.map eT).length = p4.length + m.store.output.length := by rw [List.length_append, List.length_map]
 generalize hP5 : p4 ++ m.store.output.map eT = p5 at hp5 |-
 repeat' (first | refine W_ ?_ | refine c_ (fun hc => ?_) (fun hc => ?_) | refine g_ (fun hg => ?_) (fun hg => ?_))
 apply ai (X := Nat × Nat) [0, 1000000] (fun x => [(3, .ms so x.2 0 (p5 ++ (m.store.objects.take x.1).map au.ln).length), (5, .int .i64 (x.1 : Int))]) (fun x => (so, x.2, .row 1 (aT (p5 ++ (m.store.objects.take x.1).map au.ln))) :: R) (fun x => x.1 <= m.store.objects.length) (fun x => m.store.objects.length - x.1) (0, b1) (Nat.zero_le _)
 ·exact kp_
 ·exact bX.envCons (dE rfl (by simp)) nw_
 ·exact aS (by simp [aT])
 rintro ⟨k, b1⟩ hk
 dsimp only at hk |-
 by_cases hlt : k < m.store.objects.length
 ·have hrow := lK (lo := lo) hlt
  have hxs := hs.2.1.2.1.2 _ (List.getElem_mem hlt)
  have hxa := a2.2.1 _ (List.getElem_mem hlt)
  generalize hX : m.store.objects[k] = x at hrow hxs hxa
  have hl : ∀ n ∈ [x.kind, x.class_, ((x.numbers.length : Nat) : Int)], i64 n := by have hn2 := hxs.2; simp [hxa.1, hxa.2.1]; exact mb (by omega)
  have h1 := eH fp w0.heap.size _ hl (by simp)
  have y1 := fm _ hl
  simp only [List.length_cons, List.length_nil] at y1
  have h2 := eH fp lo x.numbers hxa.2.2.2 (by have := hxs.2; omega)
  have y2 := fm x.numbers hxa.2.2.2
  have y22 := hxs.2
  have h4 := f8 lo x.fields (qp hxa.2.2.1 hxs.1.2) hxs.1.1
  have y4 := jb x.fields (qp hxa.2.2.1 hxs.1.2) hxs.1.1
  generalize e1 : lnB ⟨#[]⟩ ([x.kind, x.class_, ((x.numbers.length : Nat) : Int)].map ba) = A1 at h1 y1
  generalize e2 : lnB ⟨#[]⟩ (x.numbers.map ba) = A2 at h2 y2
  generalize e4 : lnB ⟨#[]⟩ (dh x.fields) = A4 at h4 y4
  have hln := aG (p5 ++ (m.store.objects.take k).map au.ln)
  have hbd : (p5 ++ (m.store.objects.take k).map au.ln).length <= 400000000 := by rw [List.length_append, List.length_map, List.length_take]; omega
  have hsn : (p5 ++ (m.store.objects.take (k + 1)).map au.ln) = (p5 ++ (m.store.objects.take k).map au.ln) ++ [au.ln m.store.objects[k]] := by rw [bN hlt, List.append_assoc]
  have hsl : (p5 ++ (m.store.objects.take (k + 1)).map au.ln).length = (p5 ++ (m.store.objects.take k).map au.ln).length + 1 := by rw [hsn, List.length_append]; rfl
  generalize (p5 ++ (m.store.objects.take k).map au.ln) = L at hln hbd hsn hsl |-
  rw [hX] at hsn
  repeat' (first | refine W_ ?_ | (refine ak ?_; intro ss bb) | refine ae ?_ | ((with_reducible apply dP (id := 11) 20); kernel_rfl; kernel_rfl; kernel_rfl; (repeat (first | exact Cut.zero _ | apply Cut.succ))) | with_reducible refine dV (by kernel_rfl) (by kernel_rfl) ?_ | with_reducible refine fO ?_ | with_reducible refine d7 ?_ | with_reducible refine dW rfl ?_ | refine fT rfl rfl rfl rr_ ?_ | refine dX rfl rfl rfl rr_ rfl rfl rfl ?_ | refine cT rfl rfl rfl rr_ rfl rfl ?_ | (refine jX rfl rfl rfl rr_ dd_ ?_) | (refine j2 rfl rfl rfl rr_ dd_ ?_) | (refine ce rfl rfl rfl rr_ (fun hg => ?_) (fun hg => ?_)) | (refine bR rfl rfl rfl rr_ (fun hg => ?_) (fun hg => ?_)) | ((with_reducible apply d_y); exact y_; rfl) | refine lh ?_ | refine ad hG hst (h1) ?_ | refine ad hG hst (h2) ?_ | refine ad hG hst (h4) ?_ | ((with_reducible apply bx); rfl; rfl; rfl; kernel_rfl; (repeat (first | with_reducible exact mh | with_reducible refine mt ?_)); exact hln; exact (rfl : _ = 1); omega; exact fx (e2 := x.ln) (by rw [<- e1, <- e2, <- e4]; simp only [mT, au.ln, aaJ]; rfl); (intro bq; (repeat (first | with_reducible exact Upd.head _ | with_reducible apply Upd.tail))); intro bb) | refine c_ (fun hc => ?_) (fun hc => ?_) | refine g_ (fun hg => ?_) (fun hg => ?_))
  rw [<- hsn]
  exact ah (k + 1, bb) (by (try dsimp only); omega) (by (try dsimp only); omega) (.of _ (bX.envCons (dE rfl hsl.symm) nw_) od_ pk_)
 obtain rfl : k = m.store.objects.length := by omega
 rw [List.take_length]
 have hp6 : (p5 ++ m.store.objects.map au.ln).length = p5.length + m.store.objects.length := by rw [List.length_append, List.length_map]
 generalize hP6 : p5 ++ m.store.objects.map au.ln = p6 at hp6 |-
 repeat' (first | refine W_ ?_ | refine c_ (fun hc => ?_) (fun hc => ?_) | refine g_ (fun hg => ?_) (fun hg => ?_))
 apply ai (X := Nat × Nat) [0, 1000000] (fun x => [(3, .ms so x.2 0 (p6 ++ (m.blocks.take x.1).map am.ln).length), (7, .int .i64 (x.1 : Int))]) (fun x => (so, x.2, .row 1 (aT (p6 ++ (m.blocks.take x.1).map am.ln))) :: R) (fun x => x.1 <= m.blocks.length) (fun x => m.blocks.length - x.1) (0, b1) (Nat.zero_le _)
 ·exact kp_
 ·exact bX.envCons (dE rfl (by simp)) nw_
 ·exact aS (by simp [aT])
 rintro ⟨k, b1⟩ hk
 dsimp only at hk |-
 by_cases hlt : k < m.blocks.length
 ·have hrow := mo (lo := lo) hlt
  have hxs : m.blocks[k].self.text.size <= 1048576 := hs.2.2.1.2 _ (List.getElem_mem hlt)
  have hxa := a3 _ (List.getElem_mem hlt)
  generalize hX : m.blocks[k] = x at hrow hxs hxa
  have hl : ∀ n ∈ [x.code, x.outer, x.home], i64 n := by simp [hxa.1, hxa.2.1, hxa.2.2.1]
  have h1 := eH fp w0.heap.size _ hl (by simp)
  have y1 := fm _ hl
  simp only [List.length_cons, List.length_nil] at y1
  have h2 := nD x.self hxa.2.2.2 hxs
  have y2 := fb x.self hxa.2.2.2 hxs
  generalize e1 : lnB ⟨#[]⟩ ([x.code, x.outer, x.home].map ba) = A1 at h1 y1
  have hln := aG (p6 ++ (m.blocks.take k).map am.ln)
  have hbd : (p6 ++ (m.blocks.take k).map am.ln).length <= 400000000 := by rw [List.length_append, List.length_map, List.length_take]; omega
  have hsn : (p6 ++ (m.blocks.take (k + 1)).map am.ln) = (p6 ++ (m.blocks.take k).map am.ln) ++ [am.ln m.blocks[k]] := by rw [bN hlt, List.append_assoc]
  have hsl : (p6 ++ (m.blocks.take (k + 1)).map am.ln).length = (p6 ++ (m.blocks.take k).map am.ln).length + 1 := by rw [hsn, List.length_append]; rfl
  generalize (p6 ++ (m.blocks.take k).map am.ln) = L at hln hbd hsn hsl |-
  rw [hX] at hsn
  repeat' (first | refine W_ ?_ | (refine ak ?_; intro ss bb) | refine ae ?_ | ((with_reducible apply dP (id := 16) 16); kernel_rfl; kernel_rfl; kernel_rfl; (repeat (first | exact Cut.zero _ | apply Cut.succ))) | with_reducible refine dV (by kernel_rfl) (by kernel_rfl) ?_ | with_reducible refine fO ?_ | with_reducible refine d7 ?_ | with_reducible refine dW rfl ?_ | refine fT rfl rfl rfl rr_ ?_ | refine dX rfl rfl rfl rr_ rfl rfl rfl ?_ | refine cT rfl rfl rfl rr_ rfl rfl ?_ | (refine jX rfl rfl rfl rr_ dd_ ?_) | (refine j2 rfl rfl rfl rr_ dd_ ?_) | (refine ce rfl rfl rfl rr_ (fun hg => ?_) (fun hg => ?_)) | (refine bR rfl rfl rfl rr_ (fun hg => ?_) (fun hg => ?_)) | ((with_reducible apply d_y); exact y_; rfl) | refine lh ?_ | ((with_reducible apply gT); rfl; rfl; kernel_rfl; kernel_rfl; kernel_rfl; rfl; (repeat (first | with_reducible exact mh | with_reducible refine mt ?_)); (repeat (first | exact .zero _ | apply ey.succ))) | ((with_reducible apply iz); rfl; rfl; kernel_rfl; kernel_rfl; kernel_rfl; rfl; (repeat (first | exact .zero _ | apply ey.succ))) | ((with_reducible apply gZ); rfl; rfl; kernel_rfl; kernel_rfl; kernel_rfl; rfl; (repeat (first | with_reducible exact mh | with_reducible refine mt ?_)); (first | (with_reducible assumption) | (refine aL ?_; omega) | (refine eQ ?_; simp only [List.length_set, List.length_map]; omega) | exact rfl | assumption); (repeat (first | exact .zero _ | apply ey.succ))) | refine ad hG hst (h1) ?_ | refine ad hG hst (h2) ?_ | ((with_reducible apply bx); rfl; rfl; rfl; kernel_rfl; (repeat (first | with_reducible exact mh | with_reducible refine mt ?_)); exact hln; exact (rfl : _ = 1); omega; exact fx (e2 := x.ln) (by rw [<- e1, mT]; rfl); (intro bq; (repeat (first | with_reducible exact Upd.head _ | with_reducible apply Upd.tail))); intro bb) | refine c_ (fun hc => ?_) (fun hc => ?_) | refine g_ (fun hg => ?_) (fun hg => ?_))
  rw [<- hsn]
  exact ah (k + 1, bb) (by (try dsimp only); omega) (by (try dsimp only); omega) (.of _ (bX.envCons (dE rfl hsl.symm) nw_) od_ pk_)
 obtain rfl : k = m.blocks.length := by omega
 rw [List.take_length]
 have hp7 : (p6 ++ m.blocks.map am.ln).length = p6.length + m.blocks.length := by rw [List.length_append, List.length_map]
 generalize hP7 : p6 ++ m.blocks.map am.ln = p7 at hp7 |-
 repeat' (first | refine W_ ?_ | refine c_ (fun hc => ?_) (fun hc => ?_) | refine g_ (fun hg => ?_) (fun hg => ?_))
 apply ai (X := Nat × Nat) [0, 1000000] (fun x => [(3, .ms so x.2 0 (p7 ++ (m.contexts.take x.1).map aj.ln).length), (9, .int .i64 (x.1 : Int))]) (fun x => (so, x.2, .row 1 (aT (p7 ++ (m.contexts.take x.1).map aj.ln))) :: R) (fun x => x.1 <= m.contexts.length) (fun x => m.contexts.length - x.1) (0, b1) (Nat.zero_le _)
 ·exact kp_
 ·exact bX.envCons (dE rfl (by simp)) nw_
 ·exact aS (by simp [aT])
 rintro ⟨k, b1⟩ hk
 dsimp only at hk |-
 by_cases hlt : k < m.contexts.length
 ·have hrow := cV (lo := lo) hlt
  have h1 := ra lo m.contexts[k] (a4 _ (List.getElem_mem hlt)) (hs.2.2.2.1.2 _ (List.getElem_mem hlt))
  unfold aj.tw at h1
  have hln := aG (p7 ++ (m.contexts.take k).map aj.ln)
  have hbd : (p7 ++ (m.contexts.take k).map aj.ln).length <= 400000000 := by rw [List.length_append, List.length_map, List.length_take]; omega
  have hsn : (p7 ++ (m.contexts.take (k + 1)).map aj.ln) = (p7 ++ (m.contexts.take k).map aj.ln) ++ [aj.ln m.contexts[k]] := by rw [bN hlt, List.append_assoc]
  have hsl : (p7 ++ (m.contexts.take (k + 1)).map aj.ln).length = (p7 ++ (m.contexts.take k).map aj.ln).length + 1 := by rw [hsn, List.length_append]; rfl
  generalize (p7 ++ (m.contexts.take k).map aj.ln) = L at hln hbd hsn hsl |-
  generalize m.contexts[k] = x at hrow hsn hsl h1
  repeat' (first | refine W_ ?_ | refine ac hG hst (h1) ?_ | refine ch ?_ | ((with_reducible apply bx); rfl; rfl; rfl; kernel_rfl; (repeat (first | with_reducible exact mh | with_reducible refine mt ?_)); exact hln; exact (rfl : _ = 1); omega; exact fx (e2 := x.ln) (by rfl); (intro bq; (repeat (first | with_reducible exact Upd.head _ | with_reducible apply Upd.tail))); intro bb) | refine c_ (fun hc => ?_) (fun hc => ?_) | refine g_ (fun hg => ?_) (fun hg => ?_))
  rw [<- hsn]
  exact ah (k + 1, bb) (by (try dsimp only); omega) (by (try dsimp only); omega) (.of _ (bX.envCons (dE rfl hsl.symm) nw_) od_ pk_)
 obtain rfl : k = m.contexts.length := by omega
 rw [List.take_length]
 have hp8 : (p7 ++ m.contexts.map aj.ln).length = p7.length + m.contexts.length := by rw [List.length_append, List.length_map]
 generalize hP8 : p7 ++ m.contexts.map aj.ln = p8 at hp8 |-
 repeat' (first | refine W_ ?_ | refine c_ (fun hc => ?_) (fun hc => ?_) | refine g_ (fun hg => ?_) (fun hg => ?_))
 apply ai (X := Nat × Nat) [0, 1000000] (fun x => [(3, .ms so x.2 0 (p8 ++ (m.processes.take x.1).map ap.ln).length), (10, .int .i64 (x.1 : Int))]) (fun x => (so, x.2, .row 1 (aT (p8 ++ (m.processes.take x.1).map ap.ln))) :: R) (fun x => x.1 <= m.processes.length) (fun x => m.processes.length - x.1) (0, b1) (Nat.zero_le _)
 ·exact kp_
 ·exact bX.envCons (dE rfl (by simp)) nw_
 ·exact aS (by simp [aT])
 rintro ⟨k, b1⟩ hk
 dsimp only at hk |-
 by_cases hlt : k < m.processes.length
 ·have hrow := mf (lo := lo) hlt
  have hxa := a5 _ (List.getElem_mem hlt)
  generalize hX : m.processes[k] = x at hrow hxa
  have h1 := eu (G := GF) x.at_ hxa
  have y1 := cK hxa
  have h2 := mq (G := GF) x.main
  have y2 := oJ x.main
  generalize e2 : lnB ⟨#[]⟩ [gy x.main] = A2 at h2 y2
  have hln := aG (p8 ++ (m.processes.take k).map ap.ln)
  have hbd : (p8 ++ (m.processes.take k).map ap.ln).length <= 400000000 := by rw [List.length_append, List.length_map, List.length_take]; omega
  have hsn : (p8 ++ (m.processes.take (k + 1)).map ap.ln) = (p8 ++ (m.processes.take k).map ap.ln) ++ [ap.ln m.processes[k]] := by rw [bN hlt, List.append_assoc]
  have hsl : (p8 ++ (m.processes.take (k + 1)).map ap.ln).length = (p8 ++ (m.processes.take k).map ap.ln).length + 1 := by rw [hsn, List.length_append]; rfl
  generalize (p8 ++ (m.processes.take k).map ap.ln) = L at hln hbd hsn hsl |-
  rw [hX] at hsn
  repeat' (first | refine W_ ?_ | ((with_reducible apply dP (id := 24) 22); kernel_rfl; kernel_rfl; kernel_rfl; (repeat (first | exact Cut.zero _ | apply Cut.succ))) | with_reducible refine dV (by kernel_rfl) (by kernel_rfl) ?_ | with_reducible refine fO ?_ | with_reducible refine d7 ?_ | with_reducible refine dW rfl ?_ | refine fT rfl rfl rfl rr_ ?_ | refine dX rfl rfl rfl rr_ rfl rfl rfl ?_ | refine cT rfl rfl rfl rr_ rfl rfl ?_ | (refine jX rfl rfl rfl rr_ dd_ ?_) | (refine j2 rfl rfl rfl rr_ dd_ ?_) | (refine ce rfl rfl rfl rr_ (fun hg => ?_) (fun hg => ?_)) | (refine bR rfl rfl rfl rr_ (fun hg => ?_) (fun hg => ?_)) | ((with_reducible apply d_y); exact y_; rfl) | refine lh ?_ | refine ad hG hst (h1) ?_ | refine ad hG hst (h2) ?_ | ((with_reducible apply bx); rfl; rfl; rfl; kernel_rfl; (repeat (first | with_reducible exact mh | with_reducible refine mt ?_)); exact hln; exact (rfl : _ = 1); omega; exact fx (e2 := x.ln) (by rw [<- e2, mT]; rfl); (intro bq; (repeat (first | with_reducible exact Upd.head _ | with_reducible apply Upd.tail))); intro bb) | refine c_ (fun hc => ?_) (fun hc => ?_) | refine g_ (fun hg => ?_) (fun hg => ?_))
  rw [<- hsn]
  exact ah (k + 1, bb) (by (try dsimp only); omega) (by (try dsimp only); omega) (.of _ (bX.envCons (dE rfl hsl.symm) nw_) od_ pk_)
 obtain rfl : k = m.processes.length := by omega
 rw [List.take_length]
 have hp9 : (p8 ++ m.processes.map ap.ln).length = p8.length + m.processes.length := by rw [List.length_append, List.length_map]
 generalize hP9 : p8 ++ m.processes.map ap.ln = p9 at hp9 |-
 have hl2 : ∀ n ∈ [m.now, m.status], i64 n := by simp [a7, a8]
 have h6 := eH fp lo m.ready a6 (by omega)
 have y6 := fm m.ready a6
 have h7 := eH fp w0.heap.size _ hl2 (by simp)
 have y7 := fm _ hl2
 simp only [List.length_cons, List.length_nil] at y7
 have h8 := nD m.value a9 hs.2.2.2.2.2.2.1
 have y8 := fb m.value a9 hs.2.2.2.2.2.2.1
 have y9 : m.fault.size <= 1048576 := hs.2.2.2.2.2.2.2
 generalize e6 : lnB ⟨#[]⟩ (m.ready.map ba) = A6 at h6 y6
 generalize e7 : lnB ⟨#[]⟩ ([m.now, m.status].map ba) = A7 at h7 y7
 have hb9 : p9.length <= 300000000 := by omega
 have hln := aG p9
 have hlx : ∀ L : List ByteArray, (aT L).length = L.length := aG
 have hfin : ((p9 ++ [lnB ⟨#[114, 101, 97, 100, 121]⟩ (m.ready.map ba)]) ++ [lnB ⟨#[115, 116, 97, 116, 117, 115]⟩ [ba m.now, ba m.status, m.value.fmt]]) ++ [lnB ⟨#[102, 97, 117, 108, 116]⟩ [m.fault]] = m.lns := by rw [<- hP9, <- hP8, <- hP7, <- hP6, <- hP5, <- hP4]; simp [ao.lns, sa]
 have hfl : p9.length + 1 + 1 + 1 = m.lns.length := by rw [<- hfin]; simp
 repeat' (first | refine H_ 26 ?_ | refine ac hG hst (h6) ?_ | refine ch ?_ | ((with_reducible apply bx); rfl; rfl; rfl; kernel_rfl; (repeat (first | with_reducible exact mh | with_reducible refine mt ?_)); exact hln; exact (rfl : _ = 1); omega; exact fx (e2 := lnB ⟨#[114, 101, 97, 100, 121]⟩ (m.ready.map ba)) (by rw [<- e6, mT]); (intro bq; (repeat (first | with_reducible exact Upd.head _ | with_reducible apply Upd.tail))); intro bb) | refine c_ (fun hc => ?_) (fun hc => ?_) | refine g_ (fun hg => ?_) (fun hg => ?_))
 refine ⟨?_⟩
 have hln2 : (aT (p9 ++ [lnB ⟨#[114, 101, 97, 100, 121]⟩ (m.ready.map ba)])).length = p9.length + 1 := by rw [aG, List.length_append]; rfl
 generalize p9 ++ [lnB ⟨#[114, 101, 97, 100, 121]⟩ (m.ready.map ba)] = pa at hln2 hfin |-
 repeat' (first | refine H_ 27 ?_ | ((with_reducible apply dP (id := 26) 20); kernel_rfl; kernel_rfl; kernel_rfl; (repeat (first | exact Cut.zero _ | apply Cut.succ))) | with_reducible refine dV (by kernel_rfl) (by kernel_rfl) ?_ | with_reducible refine fO ?_ | with_reducible refine d7 ?_ | with_reducible refine dW rfl ?_ | refine fT rfl rfl rfl rr_ ?_ | refine dX rfl rfl rfl rr_ rfl rfl rfl ?_ | refine cT rfl rfl rfl rr_ rfl rfl ?_ | (refine jX rfl rfl rfl rr_ dd_ ?_) | (refine j2 rfl rfl rfl rr_ dd_ ?_) | (refine ce rfl rfl rfl rr_ (fun hg => ?_) (fun hg => ?_)) | (refine bR rfl rfl rfl rr_ (fun hg => ?_) (fun hg => ?_)) | ((with_reducible apply d_y); exact y_; rfl) | refine lh ?_ | ((with_reducible apply gT); rfl; rfl; kernel_rfl; kernel_rfl; kernel_rfl; rfl; (repeat (first | with_reducible exact mh | with_reducible refine mt ?_)); (repeat (first | exact .zero _ | apply ey.succ))) | ((with_reducible apply iz); rfl; rfl; kernel_rfl; kernel_rfl; kernel_rfl; rfl; (repeat (first | exact .zero _ | apply ey.succ))) | ((with_reducible apply gZ); rfl; rfl; kernel_rfl; kernel_rfl; kernel_rfl; rfl; (repeat (first | with_reducible exact mh | with_reducible refine mt ?_)); (first | (with_reducible assumption) | (refine aL ?_; omega) | (refine eQ ?_; simp only [List.length_set, List.length_map]; omega) | exact rfl | assumption); (repeat (first | exact .zero _ | apply ey.succ))) | refine ad hG hst (h7) ?_ | refine ad hG hst (h8) ?_ | ((with_reducible apply bx); rfl; rfl; rfl; kernel_rfl; (repeat (first | with_reducible exact mh | with_reducible refine mt ?_)); exact hln2; exact (rfl : _ = 1); omega; exact fx (e2 := lnB ⟨#[115, 116, 97, 116, 117, 115]⟩ [ba m.now, ba m.status, m.value.fmt]) (by rw [<- e7, mT]; rfl); (intro bq; (repeat (first | with_reducible exact Upd.head _ | with_reducible apply Upd.tail))); intro bb) | refine c_ (fun hc => ?_) (fun hc => ?_) | refine g_ (fun hg => ?_) (fun hg => ?_))
 refine ⟨?_⟩
 have hln3 : (aT (pa ++ [lnB ⟨#[115, 116, 97, 116, 117, 115]⟩ [ba m.now, ba m.status, m.value.fmt]])).length = p9.length + 1 + 1 := by rw [aG, List.length_append, <- aG pa, hln2]; rfl
 generalize pa ++ [lnB ⟨#[115, 116, 97, 116, 117, 115]⟩ [ba m.now, ba m.status, m.value.fmt]] = pb at hln3 hfin |-
 repeat' (first | refine W_ ?_ | refine ch ?_ | ((with_reducible apply bx); rfl; rfl; rfl; kernel_rfl; (repeat (first | with_reducible exact mh | with_reducible refine mt ?_)); exact hln3; exact (rfl : _ = 1); omega; exact fx (e2 := lnB ⟨#[102, 97, 117, 108, 116]⟩ [m.fault]) (by rfl); (intro bq; (repeat (first | with_reducible exact Upd.head _ | with_reducible apply Upd.tail))); intro bb) | refine c_ (fun hc => ?_) (fun hc => ?_) | refine g_ (fun hg => ?_) (fun hg => ?_))
 rw [hfin, hfl]
 exact az x_ rfl (so, bb) trivial rfl (.cons _ _ _ _ (.nil R)) pk_ (.tmp _ _ rfl) rfl
theorem lr (lo : Nat) (m : ao) (hm : m.sane) (hsm : m.small 1048576) : Ct Tryz.prog GF 15 [.agg (m.tw lo)] (fun K => .sl K 1 (aT (cN m))) := by
 refine aq Tryz.func15 rfl Tryz.ntmps15 rfl rfl fun w0 _ hG => ?_
 have hst := fp
 have hct := (rN w0.heap.size lo m hsm).monoF (G2 := GF) fun _ h => h.1
 unfold cN
 cases hV : ez m with
 | false =>
   rw [hV] at hct
   rw [if_neg (by simp)]
   unfold ao.tw at hct |-
   repeat' (first | refine W_ ?_ | refine aJ ?_ | ((with_reducible apply vU (n := 0)); rfl; rfl; kernel_rfl; kernel_rfl; rfl; kernel_rfl; rfl; rfl; rfl; rfl; intro ss bb) | refine ac hG hst (hct) ?_ | refine c_ (fun hc => ?_) (fun hc => ?_) | refine g_ (fun hg => ?_) (fun hg => ?_))
   refine aD x_ rfl (.tmp _ _ rfl) (fun _ => ?_)
   exact iQ rfl List.mem_cons_self
 | true =>
   rw [hV] at hct
   rw [if_pos rfl]
   have hb := uf w0.heap.size lo m hm hsm (ka hV)
   unfold ao.tw at hct hb |-
   repeat' (first | refine W_ ?_ | refine aJ ?_ | refine ac hG hst (hct) ?_ | ((with_reducible apply aE); rfl; kernel_rfl; (repeat (first | exact ay.nil | ((with_reducible apply ay.cons); rfl))); exact hG; exact hb; exact .nil _; intro y hy; refine bF ?_) | refine c_ (fun hc => ?_) (fun hc => ?_) | refine g_ (fun hg => ?_) (fun hg => ?_))
   refine aD x_ rfl (.tmp _ _ rfl) (fun _ => ?_)
   exact iQ rfl List.mem_cons_self
end Go.Proofs.YtigipcbnfeoliaaGreatDoor
