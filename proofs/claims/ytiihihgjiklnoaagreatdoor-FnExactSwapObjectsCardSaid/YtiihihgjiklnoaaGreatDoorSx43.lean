/- Part 43 of the proof. -/
import Derived.Test.YtiihihgjiklnoaaGreatDoorSx42
import Derived.Test.YtiihihgjiklnoaaGreatDoorSx41
import Derived.Test.YtiihihgjiklnoaaGreatDoorSx40
import Derived.Test.YtiihihgjiklnoaaGreatDoorSx3
set_option maxHeartbeats 2000000
set_option maxRecDepth 20000
namespace Go.Proofs.YtiihihgjiklnoaaGreatDoor
open Go Go.RowKit
theorem xC {rows : List (List TV)} {a b : Nat} {r : List TV} (h : rows[b]? = some r) : (rows.set a r)[b]? = some r := by
 rw [List.getElem?_set]
 split
 ·rename_i e
  subst e
  rw [if_pos (List.getElem?_eq_some_iff.1 h).1]
 ·exact h
theorem aa6 {m : ak} {i j : Int} (h : cf m i j = true) : dK m = true /\ ∃ a b : Nat, i = a /\ j = b /\ a < m.store.objects.length /\ b < m.store.objects.length /\ bB m i j = aby m a b := by
 have h0 := h
 unfold cf at h
 simp only [Bool.and_eq_true] at h
 obtain ⟨h1, h2, h3⟩ := h
 have h2 : 0 <= i /\ i <= (m.store.objects.length : Int) - 1 := of_decide_eq_true h2
 have h3 : 0 <= j /\ j <= (m.store.objects.length : Int) - 1 := of_decide_eq_true h3
 refine ⟨h1, i.toNat, j.toNat, by omega, by omega, by omega, by omega, ?_⟩
 unfold bB
 rw [if_pos h0]; rfl
theorem rQ (lo : Nat) (m : ak) (hsm : m.small 1048576) (i j : Int) : Ct Tryz.prog GL 102 [.agg (m.tw lo), .int .i64 i, .int .i64 j] (fun _ => .bool (cf m i j)) := by
 refine ap Tryz.func102 rfl Tryz.ntmps102 rfl rfl fun w0 _ hG => ?_
 have hst := dx
 have hct := jS lo m hsm
 have hol := av.len lo m.store.objects
 have ho1 := hsm.2.1.2.1.1
 have k1 := aN (G := GL) i 0 ((m.store.objects.length : Int) - 1)
 have k2 := aN (G := GL) j 0 ((m.store.objects.length : Int) - 1)
 unfold cf
 generalize dK m = V at hct |-
 generalize inR i 0 ((m.store.objects.length : Int) - 1) = b1 at k1 |-
 generalize inR j 0 ((m.store.objects.length : Int) - 1) = b2 at k2 |-
 unfold ak.tw at hct |-
 by_cases hz : 1 <= m.store.objects.length
 ·rw [show (m.store.objects.length : Int) - 1 = ((m.store.objects.length - 1 : Nat) : Int) by omega] at k1 k2
  cases V <;> cases b1 <;> cases b2
  all_goals
    repeat' (first | refine W_ ?_ | refine aL ?_ | refine ab hG hst (hct) ?_ | refine ab hG hst (k1) ?_ | refine ab hG hst (k2) ?_)
    exact r1_
 ·cases V <;> cases b1 <;> cases b2
  all_goals
    repeat' (first | refine W_ ?_ | refine aL ?_ | refine ab hG hst (hct) ?_ | refine ab hG hst (k1) ?_ | refine ab hG hst (k2) ?_)
    exact r1_
theorem yl (f lo : Nat) (m : ak) (hsm : m.small 1048576) (i j : Int) : Ct Tryz.prog GL 99 [.cp f (m.tw lo), .int .i64 i, .int .i64 j] (fun _ => .bool (cf m i j)) := by
 refine ap Tryz.func99 rfl Tryz.ntmps99 rfl rfl fun w0 _ hG => ?_
 have hst := dx
 have hct := lv f lo m hsm
 have hol := av.len lo m.store.objects
 have ho1 := hsm.2.1.2.1.1
 have k1 := bv (G := GL) i 0 ((m.store.objects.length : Int) - 1)
 have k2 := bv (G := GL) j 0 ((m.store.objects.length : Int) - 1)
 unfold cf
 generalize dK m = V at hct |-
 generalize inR i 0 ((m.store.objects.length : Int) - 1) = b1 at k1 |-
 generalize inR j 0 ((m.store.objects.length : Int) - 1) = b2 at k2 |-
 unfold ak.tw at hct |-
 by_cases hz : 1 <= m.store.objects.length
 ·rw [show (m.store.objects.length : Int) - 1 = ((m.store.objects.length - 1 : Nat) : Int) by omega] at k1 k2
  cases V <;> cases b1 <;> cases b2
  all_goals
    repeat' (first | refine W_ ?_ | refine ab hG hst (hct) ?_ | refine ab hG hst (k1) ?_ | refine ab hG hst (k2) ?_)
    exact r1_
 ·cases V <;> cases b1 <;> cases b2
  all_goals
    repeat' (first | refine W_ ?_ | refine ab hG hst (hct) ?_ | refine ab hG hst (k1) ?_ | refine ab hG hst (k2) ?_)
    exact r1_
theorem f5 (lo : Nat) (m : ak) (hsm : m.small 1048576) (i j : Int) : CtM Tryz.prog GL 36 [.agg (m.tw lo), .int .i64 i, .int .i64 j] [] (imI (bB m i j)) (imO (bB m i j)) (fun y => .tup [.agg (imC (bB m i j) y), .bool (cf m i j)]) := by
 refine aA Tryz.func36 rfl Tryz.ntmps36 rfl rfl rfl fun w0 R gs objsR hG hR => ?_
 obtain rfl := hR.inv0
 clear hR
 have hst := dx
 have hto := rQ lo m hsm i j
 have hcp := hU hst lo m hsm
 cases hB : cf m i j with
 | false =>
   have hI : bB m i j = zIm := by unfold bB; rw [if_neg (by rw [hB]; simp)]
   rw [hI]
   rw [hB] at hto
   unfold ak.tw at hto |-
   repeat' (first | refine W_ ?_ | refine aL ?_ | (refine ai ?_; intro ss bb) | refine fF ?_ | refine ac ?_ | refine ab hG hst (hto) ?_)
   refine lx fun y hy => ?_
   exact ca (t1 := .agg (imC zIm y)) (t2 := .bool false) x_ rfl y hy rfl (.app _ R) (.drop (.refl _)) (.cell _ _ _ _ _ rfl mm_ (by kernel_rfl) (by kernel_rfl) (by kernel_rfl)) (.tmp _ _ rfl) rfl
 | true =>
   obtain ⟨hV, a, b, rfl, rfl, ha, hb, hI⟩ := aa6 hB
   rw [hI]
   rw [hB] at hto
   unfold ak.tw at hto hcp |-
   have ho1 := hsm.2.1.2.1.1
   repeat' (first | refine H_ 4 ?_ | refine aL ?_ | (refine ai ?_; intro ss bb) | refine ac ?_ | refine ab hG hst (hto) ?_ | ((with_reducible apply aJ); rfl; kernel_rfl; (repeat (first | exact aH.nil | ((with_reducible apply aH.cons); rfl))); exact hG; exact hcp; exact .nil _; intro y hy; refine cm (t7 m y _ _) ?_))
   refine ⟨?_⟩
   rename_i s6 b6
   generalize ss = s8; generalize bb = b8
   obtain ⟨p, q, hri, hrj, hset⟩ := tO hy ha hb
   have hrl : (nRg bQ m.store.objects y.2.1.2.1.2).length = m.store.objects.length := gF _ hy.2.1.2
   have hfin := sA m y hy ha hb R
   generalize nRg bQ m.store.objects y.2.1.2.1.2 = rows at hri hrj hset hrl hfin |-
   rw [<- hset] at hfin
   unfold bQ at hri hrj hfin
   clear hset
   have hrb := xC (a := a) hrj
   repeat' (first | refine W_ ?_ | refine bg ?_ | refine ac ?_ | ((with_reducible apply abX (id := 5) 13); kernel_rfl; kernel_rfl; kernel_rfl; (repeat (first | exact Cut.zero _ | apply Cut.succ)); rfl; rfl) | ((with_reducible apply w_u); exact yu_; rfl) | ((with_reducible apply w_q); exact y_; rfl; kernel_rfl) | ((with_reducible apply af4); rfl; rfl; rfl; kernel_rfl; (repeat (first | with_reducible exact mh | with_reducible refine mt ?_)); (first | (with_reducible assumption) | (refine aK ?_; omega) | (refine fD ?_; simp only [List.length_set, List.length_map]; omega) | exact rfl | assumption); (first | exact .nil _ | exact .put _ _ _ _ _ (.nil _) | exact .skip _ _ _ _ _ (.put _ _ _ _ _ (.nil _)) | exact .skip _ _ _ _ _ (.skip _ _ _ _ _ (.put _ _ _ _ _ (.nil _))) | (repeat (first | exact .nil _ | apply bz.put | apply bz.skip))); kernel_rfl; rfl; (repeat (first | with_reducible exact Upd.head _ | with_reducible apply Upd.tail))))
   refine ca (t1 := .agg [.ms y.1.1.1.1 y.1.1.1.2 0 m.base.classes.length, .ms y.1.2.1.1.1 y.1.2.1.1.2 0 m.base.codes.length, .ms y.1.2.2.1 y.1.2.2.2 0 m.base.entries.length, .int .i64 m.base.main, .ms y.2.1.1.1.1 y.2.1.1.1.2 0 m.store.classes.length, .ms y.2.1.2.1.1.1 y.2.1.2.1.1.2 0 m.store.objects.length, .ms y.2.1.2.2.1 y.2.1.2.2.2 0 m.store.output.length, .int .i64 m.store.ticks, .int .i64 m.store.budget, .int .i64 m.store.made, .ms y.2.2.1.1 y.2.2.1.2 0 m.blocks.length, .ms y.2.2.2.1.1.1 y.2.2.2.1.1.2 0 m.contexts.length, .ms y.2.2.2.2.1.1 y.2.2.2.2.1.2 0 m.processes.length, .ms y.2.2.2.2.2.1 y.2.2.2.2.2.2 0 m.ready.length, .int .i64 m.now, .int .i64 m.status, .int .i64 m.value.kind, .int .i64 m.value.number, .str m.value.text, .str m.fault]) (t2 := .bool true) x_ rfl (zW y a b) (adi hy a b) rfl (.app _ R) (.drop (.trans (.drop hfin) (.perm (List.Perm.swap _ _ _)))) (.cell _ _ _ _ _ rfl mm_ (by kernel_rfl) (by kernel_rfl) (by kernel_rfl)) (.tmp _ _ rfl) ?_
   show TV.tup [.agg (imC (aby m a b) (zW y a b)), .bool true] = _
   rw [acR]; rfl
theorem wF {s b0 : Nat} (m : ak) (y : dE) (hsm : m.small 1048576) (hy : imI m y) {a b : Nat} (ha : a < m.store.objects.length) (hb : b < m.store.objects.length) : CtM Tryz.prog GL 101 [.mp s b0 0, .int .i64 (a : Int), .int .i64 (b : Int)] [(s, b0, .box (imC m y)), (y.2.1.2.1.1.1, y.2.1.2.1.1.2, .row 4 (nRg bQ m.store.objects y.2.1.2.1.2))] (fun _ : Unit => True) (fun _ => [(s, b0, .box (imC m y)), (y.2.1.2.1.1.1, y.2.1.2.1.1.2, .row 4 (gM (nRg bQ m.store.objects y.2.1.2.1.2) a b))]) (fun _ => .tup []) := by
 refine aA Tryz.func101 rfl Tryz.ntmps101 rfl rfl rfl fun w0 R gs objsR hG hR => ?_
 obtain rfl := hR.inv2
 clear hR
 have ho1 := hsm.2.1.2.1.1
 obtain ⟨p, q, hri, hrj, hset⟩ := tO hy ha hb
 have hrl : (nRg bQ m.store.objects y.2.1.2.1.2).length = m.store.objects.length := gF _ hy.2.1.2
 generalize nRg bQ m.store.objects y.2.1.2.1.2 = rows at hri hrj hset hrl |-
 rw [<- hset]
 unfold bQ at hri hrj |-
 clear hset
 have hrb := xC (a := a) hrj
 unfold imC
 repeat' (first | refine W_ ?_ | (refine ai ?_; intro ss bb) | refine ac ?_ | refine bg ?_ | ((with_reducible apply jH (id := 1) 15); kernel_rfl; kernel_rfl; kernel_rfl; (repeat (first | exact Cut.zero _ | apply Cut.succ))) | ((with_reducible apply jH (id := 2) 8); kernel_rfl; kernel_rfl; kernel_rfl; (repeat (first | exact Cut.zero _ | apply Cut.succ))) | with_reducible refine gI (by kernel_rfl) (by kernel_rfl) ?_ | with_reducible refine jU ?_ | with_reducible refine gN ?_ | with_reducible refine gG rfl ?_ | refine jP rfl rfl rfl rr_ ?_ | refine gH rfl rfl rfl rr_ rfl rfl rfl ?_ | refine fk rfl rfl rfl rr_ rfl rfl ?_ | (refine o7 rfl rfl rfl rr_ dd_ ?_) | (refine pv rfl rfl rfl rr_ dd_ ?_) | (refine eD rfl rfl rfl rr_ (fun hg => ?_) (fun hg => ?_)) | (refine eh rfl rfl rfl rr_ (fun hg => ?_) (fun hg => ?_)) | ((with_reducible apply d_y); exact y_; rfl))
 exact aca x_ rfl () trivial rfl (.cons _ _ _ _ (.cons _ _ _ _ (.nil R))) (.drop (.refl _)) rfl
theorem ke (lo : Nat) (m : ak) (hsm : m.small 1048576) (i j : Int) : CtM Tryz.prog GL 35 [.agg (m.tw lo), .int .i64 i, .int .i64 j] [] (imI (bB m i j)) (imO (bB m i j)) (fun y => .tup [.agg (imC (bB m i j) y), .bool (cf m i j)]) := by
 refine aA Tryz.func35 rfl Tryz.ntmps35 rfl rfl rfl fun w0 R gs objsR hG hR => ?_
 obtain rfl := hR.inv0
 clear hR
 have hst := dx
 have hto := yl w0.heap.size lo m hsm i j
 have hcp := nl hst w0.heap.size lo m hsm
 cases hB : cf m i j with
 | false =>
   have hI : bB m i j = zIm := by unfold bB; rw [if_neg (by rw [hB]; simp)]
   rw [hI]
   rw [hB] at hto
   unfold ak.tw at hto |-
   repeat' (first | refine W_ ?_ | refine aL ?_ | (refine ai ?_; intro ss bb) | refine fF ?_ | refine ac ?_ | refine ab hG hst (hto) ?_)
   refine lx fun y hy => ?_
   exact ca (t1 := .agg (imC zIm y)) (t2 := .bool false) x_ rfl y hy rfl (.app _ R) (.drop (.refl _)) (.cell _ _ _ _ _ rfl mm_ (by kernel_rfl) (by kernel_rfl) (by kernel_rfl)) (.tmp _ _ rfl) rfl
 | true =>
   obtain ⟨hV, a, b, rfl, rfl, ha, hb, hI⟩ := aa6 hB
   rw [hI]
   rw [hB] at hto
   unfold ak.tw at hto hcp |-
   have ho1 := hsm.2.1.2.1.1
   repeat' (first | refine H_ 4 ?_ | refine aL ?_ | (refine ai ?_; intro ss bb) | refine ac ?_ | refine ab hG hst (hto) ?_ | ((with_reducible apply aJ); rfl; kernel_rfl; (repeat (first | exact aH.nil | ((with_reducible apply aH.cons); rfl))); exact hG; exact hcp; exact .nil _; intro y hy; refine cm (t7 m y _ _) ?_))
   refine ⟨?_⟩
   rename_i s6 b6
   generalize ss = s8; generalize bb = b8
   have hsw := wF (s := s8) (b0 := b8) m y hsm hy ha hb
   have hfin := sA m y hy ha hb R
   unfold imC at hsw
   repeat' (first | refine W_ ?_ | refine ac ?_ | ((with_reducible apply aJ); rfl; kernel_rfl; (repeat (first | exact aH.nil | ((with_reducible apply aH.cons); rfl))); exact hG; exact hsw; exact .cons _ _ _ _ (.cons _ _ _ _ (.nil _)); rintro ⟨⟩ -; refine vP ?_))
   refine ca (t1 := .agg [.ms y.1.1.1.1 y.1.1.1.2 0 m.base.classes.length, .ms y.1.2.1.1.1 y.1.2.1.1.2 0 m.base.codes.length, .ms y.1.2.2.1 y.1.2.2.2 0 m.base.entries.length, .int .i64 m.base.main, .ms y.2.1.1.1.1 y.2.1.1.1.2 0 m.store.classes.length, .ms y.2.1.2.1.1.1 y.2.1.2.1.1.2 0 m.store.objects.length, .ms y.2.1.2.2.1 y.2.1.2.2.2 0 m.store.output.length, .int .i64 m.store.ticks, .int .i64 m.store.budget, .int .i64 m.store.made, .ms y.2.2.1.1 y.2.2.1.2 0 m.blocks.length, .ms y.2.2.2.1.1.1 y.2.2.2.1.1.2 0 m.contexts.length, .ms y.2.2.2.2.1.1 y.2.2.2.2.1.2 0 m.processes.length, .ms y.2.2.2.2.2.1 y.2.2.2.2.2.2 0 m.ready.length, .int .i64 m.now, .int .i64 m.status, .int .i64 m.value.kind, .int .i64 m.value.number, .str m.value.text, .str m.fault]) (t2 := .bool true) x_ rfl (zW y a b) (adi hy a b) rfl (.app _ R) (.drop (.trans (.drop hfin) (.perm (List.Perm.swap _ _ _)))) (.cell _ _ _ _ _ rfl mm_ (by kernel_rfl) (by kernel_rfl) (by kernel_rfl)) (.tmp _ _ rfl) ?_
   show TV.tup [.agg (imC (aby m a b) (zW y a b)), .bool true] = _
   rw [acR]; rfl
end Go.Proofs.YtiihihgjiklnoaaGreatDoor
