/- Part 51 of the proof: the texts EngAJ, EngAM, EngAN, NiX, NiY, NiZ, NiZ2, SwP, OfA, OfL. -/
import Derived.Test.YtiihihgjiklnoaaGreatDoorQb16
import Derived.Test.YtiihihgjiklnoaaGreatDoorQb7
import Derived.Test.YtiihihgjiklnoaaGreatDoorQb33
import Derived.Test.YtiihihgjiklnoaaGreatDoorQb20
import Derived.Test.YtiihihgjiklnoaaGreatDoorQb29
import Derived.Test.YtiihihgjiklnoaaGreatDoorQb13
import Derived.Test.YtiihihgjiklnoaaGreatDoorQb44
import Derived.Test.YtiihihgjiklnoaaGreatDoorQb10
import Derived.Test.YtiihihgjiklnoaaGreatDoorQb15
import Derived.Test.YtiihihgjiklnoaaGreatDoorQb46
import Derived.Test.YtiihihgjiklnoaaGreatDoorQb47
import Derived.Test.YtiihihgjiklnoaaGreatDoorQb23
import Derived.Test.YtiihihgjiklnoaaGreatDoorQb49
/- The abstract walk, part 36: stores in a region that draws its order. -/
namespace Go.Proofs.YtiihihgjiklnoaaGreatDoor
open Go Go.RowKit
section
variable {P : Program} {w0 : World} {N : Nat} {Q : Exit → Act → World → Prop} {objs R : aI} {ops : Array Oper} {env : Env} {T0 : Nat} {pos : String} {af : Array Edge} {g : Option (Nat × Bool)}
end
section
variable {P : Program} {w0 : World} {N : Nat} {Q : Exit → Act → World → Prop} {objs : aI} {ops : Array Oper} {K : List Mki → (Pt → Env) → Prop} {c : Nat} {L : List Mki} {rest : List Oper} {E : Pt → Env} {T0 : Nat} {pos : String} {af : Array Edge}
end
section
variable {P : Program} {w0 : World} {N : Nat} {Q : Exit → Act → World → Prop} {objs R : aI} {ops : Array Oper} {env : Env} {dd : Option Nat} {T0 : Nat} {pos : String} {af : Array Edge} {g : Option (Nat × Bool)}
end
section
variable {P : Program} {w0 : World} {N : Nat} {objs : aI} {ops : Array Oper} {K : List Mki → (Pt → Env) → Prop} {c : Nat} {L : List Mki} {rest : List Oper} {E : Pt → Env} {d T0 : Nat} {pos : String} {af : Array Edge}
end
section
variable {P : Program} {w0 : World} {N : Nat} {Q : Exit → Act → World → Prop} {env : Env} {objs objs' : aI}
end
set_option maxRecDepth 20000
set_option maxHeartbeats 2000000
section
variable {G : World → Prop}
end
set_option maxRecDepth 20000
set_option maxHeartbeats 2000000
section
variable {G : World → Prop}
end
set_option maxRecDepth 20000
set_option maxHeartbeats 2000000
set_option maxRecDepth 20000
set_option maxHeartbeats 2000000
def ownL (l : List aa) (n : Nat) : List ByteArray := match l[n]? with | some c => c.fields.drop (dM l c).length | none => []
noncomputable def uQ (m : ak) (q : Int) : List ByteArray := if dk m = true ∧ inR q 16 ((m.base.classes.length : Int) - 1) = true then ownL m.base.classes q.toNat else []
open Classical in
theorem lU {m : ak} (h : dk m = true) {n : Nat} (h16 : 16 ≤ n) (hn : n < m.base.classes.length) : ∃ (k : Nat) (p : aa), m.base.classes[n].parent = k ∧ k < n ∧ m.base.classes[k]? = some p ∧ p.fields.length ≤ m.base.classes[n].fields.length ∧ m.base.classes[n].fields.length ≤ 8 ∧ ownL m.base.classes n = m.base.classes[n].fields.drop p.fields.length := by
  have hi : abO m := of_decide_eq_true h
  have hv : eb m.base := of_decide_eq_true hi.ver
  have hc : iI m.base.classes := of_decide_eq_true hv.1
  have h1 := (ip (by omega)).1 (hc.2 n hn)
  obtain ⟨⟨_, h2, _, h3⟩, _, h4, _⟩ := h1
  obtain ⟨k, hk⟩ : ∃ k : Nat, m.base.classes[n].parent = k := ⟨m.base.classes[n].parent.toNat, by omega⟩
  have hkl : k < m.base.classes.length := by omega
  have hp := fa hk (List.getElem?_eq_getElem hkl)
  have h5 := h4.1
  rw [hp] at h5
  refine ⟨k, _, hk, by omega, List.getElem?_eq_getElem hkl, h5, h3, ?_⟩
  unfold ownL
  rw [List.getElem?_eq_getElem hn]
  dsimp only
  rw [hp]
open Classical in
theorem rB {m : ak} (h : dk m = true) : 16 ≤ m.base.classes.length := by
  have hi : abO m := of_decide_eq_true h
  have hv : eb m.base := of_decide_eq_true hi.ver
  have hc : iI m.base.classes := of_decide_eq_true hv.1
  exact hc.1.1
theorem wJ {m : ak} (_ : m.small 1048576) (q : Int) : (uQ m q).length ≤ 1048576 := by
  unfold uQ
  split
  · rename_i h
    have hq : 16 ≤ q ∧ q ≤ (m.base.classes.length : Int) - 1 := of_decide_eq_true h.2
    obtain ⟨n, rfl⟩ : ∃ n : Nat, q = n := ⟨q.toNat, by omega⟩
    obtain ⟨k, p, _, _, _, _, h3, h4⟩ := lU h.1 (n := n) (by omega) (by omega)
    rw [Int.toNat_natCast, h4, List.length_drop]
    omega
  · simp
set_option maxRecDepth 20000
set_option maxHeartbeats 2000000
theorem zD {l : List ByteArray} (h : bE l = []) : l = [] := by
  cases l with
  | nil => rfl
  | cons a r => simp [bE] at h
theorem nz {B : Nat} {objs : aI} {K s b n : Nat} {l : List ByteArray} (hn : l.length = n) (hm : (s, b, bu.row 1 (bE l)) ∈ objs) : Fin B objs K (.ms s b 0 n) (.sl K 1 (bE l)) := by
  subst hn
  exact eK (f := fun b : ByteArray => [TV.str b]) (f' := fun b : ByteArray => [TV.str b]) (fun x => .cons (.flat rfl) .nil) hm
theorem rA (l : List ByteArray) (n : Nat) : (bE l).drop n = bE (l.drop n) := by simp [bE]
theorem lx {G : World → Prop} (lo : Nat) (l : List ByteArray) (hn : l.length ≤ 1048576) : CtM Tryz.prog G 187 [.sl lo 1 (bE l)] [] (fun _ : Nat × Nat => True) (fun y => [(y.1, y.2, .row 1 (bE l))]) (fun y => .ms y.1 y.2 0 l.length) := by
  refine aC Tryz.func187 rfl Tryz.ntmps187 rfl rfl rfl fun w0 R gs objsR hG hR => ?_
  obtain rfl := hR.inv0
  clear hR
  have hlen := bf l
  repeat' (first | refine W_ ?_ | ((with_reducible apply yJ); rfl; rfl; rfl; kernel_rfl; intro bl hbl) | ((with_reducible apply p9 (n := 0)); rfl; rfl; kernel_rfl; kernel_rfl; rfl; kernel_rfl; rfl; rfl; rfl; rfl; intro ss bb) | ((with_reducible apply mX); rfl; rfl; rfl; kernel_rfl; (repeat (first | with_reducible exact mh | with_reducible refine mt ?_)); (first | with_reducible assumption | exact aP _ | exact aq _ | exact aQ _ | exact List.length_map _ | assumption | rfl); omega; (intro bq; (repeat (first | with_reducible exact Upd.head _ | with_reducible apply Upd.tail))); intro bb) | refine c_ (fun hc => ?_) (fun hc => ?_) | refine g_ (fun hg => ?_) (fun hg => ?_))
  · obtain rfl := zD (hbl hc)
    refine db 2 1 (by decide) rfl fun ss => ?_
    exact av x_ rfl (ss, 0) trivial rfl (.cons _ _ _ _ (.nil R)) (.refl _) (.tmp _ _ rfl) rfl
  · exact av x_ rfl (_, _) trivial rfl (.cons _ _ _ _ (.nil R)) (.refl _) (.tmp _ _ rfl) rfl
theorem xu (l : List ByteArray) : ∀ y : Nat × Nat, True → (∀ s b o, (s, b, o) ∈ [(y.1, y.2, bu.row 1 (bE l))] → fS [(y.1, y.2, bu.row 1 (bE l))] o) ∧ gx [(y.1, y.2, bu.row 1 (bE l))] (.ms y.1 y.2 0 l.length) := fun y _ =>
  ⟨fun s b o h => by
    simp only [List.mem_singleton, Prod.mk.injEq] at h
    obtain ⟨_, _, rfl⟩ := h
    exact lP (ry _), .ms _ _ _ _ _ _ List.mem_cons_self⟩
theorem uF {lo : Nat} {l : List aa} {i : Nat} (h : i < l.length) : (l.map (aa.tw lo))[i]? = some [.str l[i].name, .int .i64 l[i].parent, .sl lo 1 (bE l[i].fields)] := aH h
theorem sV {G : World → Prop} (hst : az G) (lo : Nat) (l : List aa) (_hl : l.length ≤ 1048576) (n : Nat) (h16 : 16 ≤ n) (hn : n < l.length) (k : Nat) (p0 : aa) (hk : l[n].parent = k) (hp : l[k]? = some p0) (h5 : p0.fields.length ≤ l[n].fields.length) (h8 : l[n].fields.length ≤ 8) : CtM Tryz.prog G 95 [.sl lo 3 (l.map (aa.tw lo)), .int .i64 (n : Int)] [] (fun _ : Nat × Nat => True) (fun y => [(y.1, y.2, .row 1 (bE (l[n].fields.drop p0.fields.length)))]) (fun y => .ms y.1 y.2 0 (l[n].fields.drop p0.fields.length).length) := by
  refine aC Tryz.func95 rfl Tryz.ntmps95 rfl rfl rfl fun w0 R gs objsR hG hR => ?_
  obtain rfl := hR.inv0
  clear hR
  have hlen := aa.len lo l
  have hr1 := uF (lo := lo) hn
  have hkl : k < l.length := (List.getElem?_eq_some_iff.1 hp).1
  have hr2 : (l.map (aa.tw lo))[k]? = some [.str p0.name, .int .i64 p0.parent, .sl lo 1 (bE p0.fields)] := by rw [List.getElem?_map, hp]; rfl
  rw [hk] at hr1
  generalize l[n] = c at hr1 h5 h8 hk ⊢
  have hc1 := bf c.fields
  have hc2 := bf p0.fields
  have hdr := rA c.fields p0.fields.length
  have hcl := lx (G := G) lo (c.fields.drop p0.fields.length) (by rw [List.length_drop]; omega)
  rw [← hdr] at hcl
  have hnw := xu (c.fields.drop p0.fields.length)
  rw [← hdr] at hnw
  repeat' (first | refine W_ ?_ | ((with_reducible apply lI (id := 3) 17); kernel_rfl; kernel_rfl; kernel_rfl; rfl; (repeat (first | exact Cut.zero _ | apply Cut.succ))) | ((with_reducible apply m_q); exact ym_; rfl; exact zk) | ((with_reducible apply p7); rfl; (intro p; try dsimp only); (repeat (first | exact TB.nil _ | ((with_reducible apply TB.cons); rfl; rfl; (first | exact .nil _ | exact .put _ _ _ _ _ (.nil _) | exact .skip _ _ _ _ _ (.put _ _ _ _ _ (.nil _)) | exact .skip _ _ _ _ _ (.skip _ _ _ _ _ (.put _ _ _ _ _ (.nil _))) | (repeat (first | exact .nil _ | apply cz.put | apply cz.skip))); kernel_rfl))); rfl; kernel_rfl; kernel_rfl; exact zk) | ((with_reducible apply m_q); (intro p R hR; exact ⟨gV rfl rfl rfl (by kernel_rfl) (by kernel_rfl) (by kernel_rfl) (by (first | (with_reducible first | exact rfl | exact mC | exact nw | exact mr | exact mF) | exact rfl | exact cg (by omega) | omega)) (by (first | assumption | omega))⟩); rfl; exact zk) | ((with_reducible apply acd hG hst hcl); rfl; kernel_rfl; (intro p; (repeat (first | exact cf.nil | ((with_reducible apply cf.cons); rfl; exact .same _)))); exact hnw) | (with_reducible refine DM.nil _ _ _ ?_) | refine c_ (fun hc => ?_) (fun hc => ?_) | refine g_ (fun hg => ?_) (fun hg => ?_))
  intro p hp
  refine uN (objs' := ((Enc.dec (p 16) : Nat × Nat).1, (Enc.dec (p 16) : Nat × Nat).2, .row 1 ((bE c.fields).drop p0.fields.length)) :: R) (by rw [show qj _ = [_] from rfl]; simp only [List.flatMap_cons, List.flatMap_nil, List.append_nil, List.cons_append, List.nil_append]; (try rfl)) ?_
  dsimp only [Nat.reduceAdd]
  generalize (Enc.dec (p 16) : Nat × Nat) = y
  repeat' (first | refine W_ ?_ | refine c_ (fun hc => ?_) (fun hc => ?_) | refine g_ (fun hg => ?_) (fun hg => ?_))
  rw [← hdr]
  exact av x_ rfl y trivial rfl (.cons _ _ _ _ (.nil R)) pk_ (.tmp _ _ rfl) rfl
theorem ln (lo : Nat) (m : ak) (hsm : m.small 1048576) (q : Int) : Ct Tryz.prog GL 25 [.agg (m.tw lo), .int .i64 q] (fun K => .sl K 1 (bE (uQ m q))) := by
  refine ao Tryz.func25 rfl Tryz.ntmps25 rfl rfl fun w0 _ hG => ?_
  have hst := df
  have hct := kj w0.heap.size lo m hsm
  have hcl := aa.len lo m.base.classes
  have hc1 := hsm.1.1.1
  have hin := a7 (G := GL) q 16 ((m.base.classes.length : Int) - 1)
  cases hV : dk m with
  | false =>
    rw [show uQ m q = [] from if_neg (by rw [hV]; simp)]
    rw [hV] at hct
    unfold ak.tw at hct ⊢
    repeat' (first | refine W_ ?_ | refine aE ?_ | ((with_reducible apply p9 (n := 0)); rfl; rfl; kernel_rfl; kernel_rfl; rfl; kernel_rfl; rfl; rfl; rfl; rfl; intro ss bb) | refine ab hG hst (hct) ?_ | refine c_ (fun hc => ?_) (fun hc => ?_) | refine g_ (fun hg => ?_) (fun hg => ?_))
    refine aB x_ rfl (.tmp _ _ rfl) (fun _ => ?_)
    exact nz rfl List.mem_cons_self
  | true =>
    rw [hV] at hct
    by_cases hq : inR q 16 ((m.base.classes.length : Int) - 1) = true
    · have hq2 : 16 ≤ q ∧ q ≤ (m.base.classes.length : Int) - 1 := of_decide_eq_true hq
      obtain ⟨n, rfl⟩ : ∃ n : Nat, q = n := ⟨q.toNat, by omega⟩
      obtain ⟨k, p, hk, hkn, hp, h5, h8, h9⟩ := lU hV (n := n) (by omega) (by omega)
      rw [show uQ m (n : Int) = m.base.classes[n].fields.drop p.fields.length from by unfold uQ; rw [if_pos ⟨hV, hq⟩, Int.toNat_natCast, h9]]
      rw [hq] at hin
      have hnl : n < m.base.classes.length := by omega
      have hr1 := uF (lo := lo) hnl
      have hkl : k < m.base.classes.length := by omega
      have hr2 : (m.base.classes.map (aa.tw lo))[k]? = some [.str p.name, .int .i64 p.parent, .sl lo 1 (bE p.fields)] := by rw [List.getElem?_map, hp]; rfl
      rw [hk] at hr1
      rw [show (m.base.classes.length : Int) - 1 = ((m.base.classes.length - 1 : Nat) : Int) by omega] at hin
      generalize m.base.classes[n] = c at hr1 h5 h8 hk ⊢
      have hc2 := bf c.fields
      have hc3 := bf p.fields
      have hdr := rA c.fields p.fields.length
      have hdl : ((bE c.fields).drop p.fields.length).length = (c.fields.drop p.fields.length).length := by rw [hdr]; exact bf _
      have hdn : (c.fields.drop p.fields.length).length ≤ 8 := by rw [List.length_drop]; omega
      unfold ak.tw at hct ⊢
      repeat' (first | refine H_ 4 ?_ | refine aE ?_ | (refine ai ?_; intro ss bb) | refine ad ?_ | refine ab hG hst (hct) ?_ | refine ab hG hst (hin) ?_ | refine c_ (fun hc => ?_) (fun hc => ?_) | refine g_ (fun hg => ?_) (fun hg => ?_))
      refine ⟨?_⟩
      generalize ss = s5; generalize bb = b5
      repeat' (first | refine W_ ?_ | ((with_reducible apply lI (id := 4) 14); kernel_rfl; kernel_rfl; kernel_rfl; rfl; (repeat (first | exact Cut.zero _ | apply Cut.succ))) | ((with_reducible apply m_q); exact ym_; rfl; exact zk) | ((with_reducible apply p7); rfl; (intro p; try dsimp only); (repeat (first | exact TB.nil _ | ((with_reducible apply TB.cons); rfl; rfl; (first | exact .nil _ | exact .put _ _ _ _ _ (.nil _) | exact .skip _ _ _ _ _ (.put _ _ _ _ _ (.nil _)) | exact .skip _ _ _ _ _ (.skip _ _ _ _ _ (.put _ _ _ _ _ (.nil _))) | (repeat (first | exact .nil _ | apply cz.put | apply cz.skip))); kernel_rfl))); rfl; kernel_rfl; kernel_rfl; exact zk) | ((with_reducible apply m_q); (intro p R hR; exact ⟨gV rfl rfl rfl (by kernel_rfl) (by kernel_rfl) (by kernel_rfl) (by (first | (with_reducible first | exact rfl | exact mC | exact nw | exact mr | exact mF) | exact rfl | exact cg (by omega) | omega)) (by (first | assumption | omega))⟩); rfl; exact zk) | ((with_reducible apply ads (n := 0)); (intro p; rfl); rfl; kernel_rfl; kernel_rfl; rfl; kernel_rfl; rfl; rfl; rfl; rfl) | ((with_reducible apply acF); (intro p; rfl); (intro p; rfl); rfl; kernel_rfl; (intro p; rfl); (first | with_reducible assumption | exact aP _ | exact aq _ | exact aQ _ | exact List.length_map _ | assumption | rfl); omega; exact ⟨by decide, ah_⟩; rfl; (focus (simp; done))) | (with_reducible refine DM.nil _ _ _ ?_) | refine c_ (fun hc => ?_) (fun hc => ?_) | refine g_ (fun hg => ?_) (fun hg => ?_))
      intro pp hpp
      refine uN (objs' := ((pp 0).a, (pp 13).b, .row 1 ((bE c.fields).drop p.fields.length)) :: [(s5, b5, .box [.str c.name, .int .i64 (k : Int), .sl lo 1 (bE c.fields)])]) (by rw [show qj _ = [_] from rfl]; simp only [List.flatMap_cons, List.flatMap_nil, List.append_nil, List.cons_append, List.nil_append]; (try rfl)) ?_
      dsimp only [Nat.reduceAdd]
      generalize Yu.a (pp 0) = sx
      generalize Yu.b (pp 13) = bx
      repeat' (first | refine W_ ?_ | refine c_ (fun hc => ?_) (fun hc => ?_) | refine g_ (fun hg => ?_) (fun hg => ?_))
      refine aB x_ rfl (.tmp _ _ rfl) (fun _ => ?_)
      exact nz rfl (by rw [← hdr]; exact List.mem_cons_self)
    · have hq' : inR q 16 ((m.base.classes.length : Int) - 1) = false := by simpa using hq
      rw [show uQ m q = [] from if_neg fun h => hq h.2]
      rw [hq'] at hin
      have h16 := rB hV
      rw [show (m.base.classes.length : Int) - 1 = ((m.base.classes.length - 1 : Nat) : Int) by omega] at hin
      unfold ak.tw at hct ⊢
      repeat' (first | refine W_ ?_ | refine aE ?_ | ((with_reducible apply p9 (n := 0)); rfl; rfl; kernel_rfl; kernel_rfl; rfl; kernel_rfl; rfl; rfl; rfl; rfl; intro ss bb) | refine ab hG hst (hct) ?_ | refine ab hG hst (hin) ?_ | refine c_ (fun hc => ?_) (fun hc => ?_) | refine g_ (fun hg => ?_) (fun hg => ?_))
      refine aB x_ rfl (.tmp _ _ rfl) (fun _ => ?_)
      exact nz rfl List.mem_cons_self
theorem fR (lo : Nat) (m : ak) (hsm : m.small 1048576) (q : Int) : CtM Tryz.prog GL 26 [.agg (m.tw lo), .int .i64 q] [] (fun _ : Nat × Nat => True) (fun y => [(y.1, y.2, .row 1 (bE (uQ m q)))]) (fun y => .ms y.1 y.2 0 (uQ m q).length) := by
  refine aC Tryz.func26 rfl Tryz.ntmps26 rfl rfl rfl fun w0 R gs objsR hG hR => ?_
  obtain rfl := hR.inv0
  clear hR
  have hst := df
  have hct := i6 lo m hsm
  have hcl := aa.len lo m.base.classes
  have hc1 := hsm.1.1.1
  have hin := aK (G := GL) q 16 ((m.base.classes.length : Int) - 1)
  cases hV : dk m with
  | false =>
    rw [show uQ m q = [] from if_neg (by rw [hV]; simp)]
    rw [hV] at hct
    unfold ak.tw at hct ⊢
    repeat' (first | refine W_ ?_ | refine aE ?_ | refine ab hG hst (hct) ?_ | refine c_ (fun hc => ?_) (fun hc => ?_) | refine g_ (fun hg => ?_) (fun hg => ?_))
    refine db 4 1 (by omega) rfl fun ss => av x_ rfl (ss, 0) trivial rfl (.cons _ _ _ _ (.nil R)) pk_ (.tmp _ _ rfl) rfl
  | true =>
    rw [hV] at hct
    by_cases hq : inR q 16 ((m.base.classes.length : Int) - 1) = true
    · have hq2 : 16 ≤ q ∧ q ≤ (m.base.classes.length : Int) - 1 := of_decide_eq_true hq
      obtain ⟨n, rfl⟩ : ∃ n : Nat, q = n := ⟨q.toNat, by omega⟩
      obtain ⟨k, p, hk, hkn, hp, h5, h8, h9⟩ := lU hV (n := n) (by omega) (by omega)
      have hnl : n < m.base.classes.length := by omega
      rw [show uQ m (n : Int) = m.base.classes[n].fields.drop p.fields.length from by unfold uQ; rw [if_pos ⟨hV, hq⟩, Int.toNat_natCast, h9]]
      rw [hq] at hin
      have how := sV hst lo m.base.classes hc1 n (by omega) hnl k p hk hp h5 h8
      rw [show (m.base.classes.length : Int) - 1 = ((m.base.classes.length - 1 : Nat) : Int) by omega] at hin
      unfold ak.tw at hct ⊢
      repeat' (first | refine W_ ?_ | refine aE ?_ | refine ab hG hst (hct) ?_ | refine ab hG hst (hin) ?_ | ((with_reducible apply aF); rfl; kernel_rfl; (repeat (first | exact aD.nil | ((with_reducible apply aD.cons); rfl))); exact hG; exact how; exact .nil _; intro y hy; refine br ?_) | refine c_ (fun hc => ?_) (fun hc => ?_) | refine g_ (fun hg => ?_) (fun hg => ?_))
      exact av x_ rfl y trivial rfl (.cons _ _ _ _ (.nil R)) pk_ (.tmp _ _ rfl) rfl
    · have hq' : inR q 16 ((m.base.classes.length : Int) - 1) = false := by simpa using hq
      rw [show uQ m q = [] from if_neg fun h => hq h.2]
      rw [hq'] at hin
      have h16 := rB hV
      rw [show (m.base.classes.length : Int) - 1 = ((m.base.classes.length - 1 : Nat) : Int) by omega] at hin
      unfold ak.tw at hct ⊢
      repeat' (first | refine W_ ?_ | refine aE ?_ | refine ab hG hst (hct) ?_ | refine ab hG hst (hin) ?_ | refine c_ (fun hc => ?_) (fun hc => ?_) | refine g_ (fun hg => ?_) (fun hg => ?_))
      refine db 4 1 (by omega) rfl fun ss => av x_ rfl (ss, 0) trivial rfl (.cons _ _ _ _ (.nil R)) pk_ (.tmp _ _ rfl) rfl
set_option maxRecDepth 20000
set_option maxHeartbeats 2000000
theorem x2 (l : List ByteArray) : ∀ y : Nat × Nat, True → (∀ s b o, (s, b, o) ∈ [(y.1, y.2, bu.row 1 (bE l))] → fS [(y.1, y.2, bu.row 1 (bE l))] o) ∧ gx [(y.1, y.2, bu.row 1 (bE l))] (.ms y.1 y.2 0 l.length) := fun y _ =>
  ⟨fun s b o h => by
    simp only [List.mem_singleton, Prod.mk.injEq] at h
    obtain ⟨_, _, rfl⟩ := h
    exact lP (ry _), .ms _ _ _ _ _ _ List.mem_cons_self⟩
set_option maxRecDepth 4000 in
set_option maxHeartbeats 4000000 in
theorem jp (x : ak) (hb : x.small 9223372036854775807) (q0 : Int) : Ct Tryz.prog GL 5 [.agg (x.tw 0), .int .i64 q0] (fun _ => .bool true) := by
  have hst := df
  have hto := fun hx => oG hst 0 x hx
  have htw := fun hx => nt hst 0 x hx
  refine ao Tryz.func5 rfl Tryz.ntmps5 rfl rfl fun w0 _ hG => ?_
  have hsp := fun hx => ln w0.heap.size x hx q0
  have him := fun (hx : x.small 1048576) => fR 0 x hx q0
  have him2 := fun (hx : x.small 1048576) => fR w0.heap.size x hx q0
  have heq := fun hx => n9 hst 0 w0.heap.size x hx
  have hmk := fun (hx : x.small 1048576) y hy => jT hst x y hy hx 1 (by omega)
  have hsm := fun (hx : x.small 1048576) => wJ hx q0
  have hvw : ∀ {objs : aI} {y : rI}, imI x y → (∀ o ∈ imO x y, o ∈ objs) → ci objs (.agg (imC x y)) (.agg (x.tw 0)) := fun h1 h2 => yf h1 h2
  have hnk := fun hx => oJ (x := x) hx 1
  have hsz := oR hst 0 x 1048576 (by omega) hb
  generalize uQ x q0 = sels at hsp him him2 hsm
  have hnew := x2 sels
  have hsl := bf sels
  unfold ak.tw at hto htw hsp him him2 heq hvw hsz ⊢
  repeat' (first | refine H_ 3 ?_ | refine aE ?_ | ((with_reducible apply aF); rfl; kernel_rfl; (repeat (first | exact aD.nil | ((with_reducible apply aD.cons); rfl))); exact hG; exact hsz; exact .nil _; intro y hy; refine bD ?_) | refine c_ (fun hc => ?_) (fun hc => ?_) | refine g_ (fun hg => ?_) (fun hg => ?_))
  refine ⟨?_⟩
  by_cases hneg : y < 0
  · repeat' (first | refine W_ ?_ | refine c_ (fun hc => ?_) (fun hc => ?_) | refine g_ (fun hg => ?_) (fun hg => ?_))
    exact r1_
  have hx := hy.2.2 (by omega)
  replace hto := hto hx
  replace htw := htw hx
  replace hsp := hsp hx
  replace him := him hx
  replace him2 := him2 hx
  replace heq := heq hx
  replace hnk := hnk hx
  replace hmk := hmk hx
  replace hsm := hsm hx
  have heqs := fun l1 l2 => gS (G := GL) l1 l2 sels (by omega)
  clear hb hy hsz
  repeat' (first | refine H_ 6 ?_ | refine ab hG hst (hto) ?_ | refine ab hG hst (hsp) ?_ | refine c_ (fun hc => ?_) (fun hc => ?_) | refine g_ (fun hg => ?_) (fun hg => ?_))
  refine ⟨?_⟩
  repeat' (first | refine H_ 7 ?_ | ((with_reducible apply aF); rfl; kernel_rfl; (repeat (first | exact aD.nil | ((with_reducible apply aD.cons); rfl))); exact hG; exact htw; exact .nil _; intro y hy) | (refine ai ?_; intro ss bb) | refine ad ?_ | refine c_ (fun hc => ?_) (fun hc => ?_) | refine g_ (fun hg => ?_) (fun hg => ?_))
  refine ⟨?_⟩
  generalize ss = s5; generalize bb = b5
  have hl1 := hmk y hy
  clear hmk
  unfold imC at hl1 hvw
  repeat' (first | refine H_ 8 ?_ | ((with_reducible apply ed); rfl; kernel_rfl; exact hG; exact hst; exact him; ((with_reducible apply cf.cons); rfl; exact hvw hy (fun o h => List.mem_cons_of_mem _ (List.mem_append_left _ h))); (repeat (first | exact cf.nil | ((with_reducible apply cf.cons); rfl; exact ci.same _))); exact hnew; rintro ⟨ss, bb⟩ -; refine br ?_) | refine c_ (fun hc => ?_) (fun hc => ?_) | refine g_ (fun hg => ?_) (fun hg => ?_))
  refine ⟨?_⟩
  generalize ss = sg; generalize bb = bg
  repeat' (first | refine HV_ 13 ?_ | refine fh hG hst (heqs 0 w0.heap.size) ?_ | refine ac hG hst (hto) ?_ | ((with_reducible apply x3); rfl; kernel_rfl; exact hG; exact hst; exact heq; (repeat (first | exact cf.nil | ((with_reducible apply cf.cons); rfl; (first | (with_reducible exact ci.same _) | exact hvw hy (fun o h => List.mem_cons_of_mem _ (List.mem_cons_of_mem _ (List.mem_append_left _ h)))))))) | refine c_ (fun hc => ?_) (fun hc => ?_) | refine g_ (fun hg => ?_) (fun hg => ?_))
  all_goals first
    | (exfalso; simp at hc; done)
    | skip
  refine ⟨?_⟩
  repeat' (first | refine W_ ?_ | refine c_ (fun hc => ?_) (fun hc => ?_) | refine g_ (fun hg => ?_) (fun hg => ?_))
  refine kr (lZ (imO x y) _ _ []) ?_
  repeat' (first | refine HV_ 16 ?_ | ((with_reducible apply aF); rfl; kernel_rfl; (repeat (first | exact aD.nil | ((with_reducible apply aD.cons); rfl))); exact hG; exact hl1; exact .app _ _; rintro ⟨⟩ -; refine cP (io _ _ _ _) ?_) | refine fh hG hst (heqs 0 w0.heap.size) ?_ | refine bY hG hst (heqs 0 w0.heap.size) ?_ | refine c_ (fun hc => ?_) (fun hc => ?_) | refine g_ (fun hg => ?_) (fun hg => ?_))
  all_goals first
    | (exfalso; simp at hc; done)
    | skip
  refine ⟨?_⟩
  have hmS := fo hst sg bg sels 1 (by omega) (by omega)
  have hhS := qt hst 0 sels 1 (by omega) (by omega)
  have hkS := je (nx := aW) (l := sels) (k := 1) (fp _)
  have hml : (bE (mkL co aW 1 sels)).length = sels.length := by rw [bf, cL]
  generalize kL aW 1 sels = kq at hmS hhS hkS
  generalize mkL co aW 1 sels = ms at hmS hhS hml
  repeat' (first | refine H_ 24 ?_ | ((with_reducible apply aF); rfl; kernel_rfl; (repeat (first | exact aD.nil | ((with_reducible apply aD.cons); rfl))); exact hG; exact hmS; exact .cons _ _ _ _ (.nil _); rintro ⟨⟩ -; refine br ?_) | refine fh hG hst (hhS) ?_ | refine c_ (fun hc => ?_) (fun hc => ?_) | refine g_ (fun hg => ?_) (fun hg => ?_))
  all_goals first
    | (exfalso; simp at hc; done)
    | skip
  refine ⟨?_⟩
  repeat' (first | refine W_ ?_ | refine ab hG hst (hto) ?_ | ((with_reducible apply ed); rfl; kernel_rfl; exact hG; exact hst; exact him2; ((repeat (first | exact cf.nil | ((with_reducible apply cf.cons); rfl; (first | with_reducible exact ci.same _ | ((with_reducible apply ci.msAll); (repeat (first | with_reducible exact mh | with_reducible refine mt ?_)); (first | with_reducible assumption | exact aP _ | exact aq _ | exact aQ _ | exact List.length_map _ | assumption | rfl)) | ((with_reducible apply view_code); (repeat (first | with_reducible exact mh | with_reducible refine mt ?_)); (first | with_reducible assumption | exact aP _ | exact aq _ | exact aQ _ | exact List.length_map _ | assumption | rfl)) | ((with_reducible apply ci.cut); exact ci.cp0 _ _; rfl)))))); exact hnew; rintro ⟨ss, bb⟩ -; refine br ?_) | refine fh hG hst (heqs 0 w0.heap.size) ?_ | refine fh hG hst (hhS) ?_ | refine c_ (fun hc => ?_) (fun hc => ?_) | refine g_ (fun hg => ?_) (fun hg => ?_))
  all_goals first
    | (exact r1_)
    | (exfalso; simp at hc; done)
theorem eQ (w : World) (t : PT) (x : ak) (hat : ez t x) (hsee : dK w (· < w.heap.size) t) (hx : x.sane) (q0 : Int) (_ : i64 q0) (hm : qP w) : Calls Tryz.prog 5 #[.agg t.cells.toArray, .int .i64 q0] w fun e w' => e = .returned (.bool true) ∧ Below w.heap.size w w' := by
  have h0 : 0 < w.heap.size := by
    obtain ⟨m, hm⟩ := hm
    have := World.block_lt_of_cell? w _ hm
    omega
  have hok := z7 w _ _ hsee
  have hsm := mM hat hsee hx
  rw [rW hat] at hok
  refine (jp x hsm q0 w _ h0 hm rfl ?_).mono ?_
  · intro i t v h1 h2
    match i, h1, h2 with
    | 0, h1, h2 =>
      cases h1; cases h2
      exact .agg _ _ hok.2.1 (by simpa using hok.1) (fun i t v ht hv => hok.2.2 i t v ht (by simpa using hv))
    | 1, h1, h2 =>
      cases h1; cases h2
      first
        | exact .int _ _
        | exact .int
        | constructor
  · rintro e w' ⟨v, rfl, hb, hr⟩
    have := (hr 0 (Nat.zero_le _)).bool_inv
    subst this
    exact ⟨rfl, hb⟩
end Go.Proofs.YtiihihgjiklnoaaGreatDoor
