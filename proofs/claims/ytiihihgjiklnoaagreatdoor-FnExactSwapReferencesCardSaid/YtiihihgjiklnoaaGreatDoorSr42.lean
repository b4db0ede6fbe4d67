/- Part 42 of the proof: the texts SwA, SrA, SrP, SrC. -/
import Derived.Test.YtiihihgjiklnoaaGreatDoorSr3
import Derived.Test.YtiihihgjiklnoaaGreatDoorSr38
import Derived.Test.YtiihihgjiklnoaaGreatDoorSr39
import Derived.Test.YtiihihgjiklnoaaGreatDoorSr34
set_option linter.all false
set_option maxHeartbeats 2000000
set_option maxRecDepth 20000
namespace Go.Proofs.YtiihihgjiklnoaaGreatDoor
open Go Go.RowKit
def afI (m : ao) (i j : Nat) : ao := ⟨m.base, ⟨m.store.classes, aem m.store.objects i j, m.store.output, m.store.ticks, m.store.budget, m.store.made⟩, m.blocks, m.contexts, m.processes, m.ready, m.now, m.status, m.value, m.fault⟩
def exN (i j k n : Int) : Int := if k = 6 /\ n = i then j else if k = 6 /\ n = j then i else n
theorem kw (i j k n : Int) : (k = 6 /\ n = i /\ exN i j k n = j) \/ (k = 6 /\ ¬ n = i /\ n = j /\ exN i j k n = i) \/ (k = 6 /\ ¬ n = i /\ ¬ n = j /\ exN i j k n = n) \/ (¬ k = 6 /\ exN i j k n = n) := by
 unfold exN
 by_cases h6 : k = 6
 ·by_cases h1 : n = i
  ·exact .inl ⟨h6, h1, if_pos ⟨h6, h1⟩⟩
  ·rw [if_neg (fun h => h1 h.2)]
   by_cases h2 : n = j
   ·exact .inr (.inl ⟨h6, h1, h2, if_pos ⟨h6, h2⟩⟩)
   ·exact .inr (.inr (.inl ⟨h6, h1, h2, if_neg fun h => h2 h.2⟩))
 ·rw [if_neg (fun h => h6 h.1), if_neg (fun h => h6 h.1)]
  exact .inr (.inr (.inr ⟨h6, rfl⟩))
def exV (i j : Int) (v : ab) : ab := ⟨v.kind, exN i j v.kind v.number, v.text⟩
theorem mJ {α : Type} {l : List α} {k : Nat} {r : α} (h : l[k]? = some r) : l.set k r = l := by
 obtain ⟨hk, rfl⟩ := List.getElem?_eq_some_iff.1 h
 exact List.set_getElem_self hk
def de {α : Type} (f : α -> α) (l : List α) (q : Nat) : List α := (l.take q).map f ++ l.drop q
theorem dp {α : Type} (f : α -> α) (l : List α) (q : Nat) : (de f l q).length = l.length := by
 unfold de
 simp only [List.length_append, List.length_map, List.length_take, List.length_drop]
 omega
theorem fF {α : Type} (f : α -> α) (l : List α) : de f l 0 = l := by simp [de]
theorem gW {α : Type} (f : α -> α) (l : List α) : de f l l.length = l.map f := by simp [de]
theorem ka {α : Type} (f : α -> α) {l : List α} {q : Nat} (h : q < l.length) : (de f l q)[q]? = some l[q] := by
 unfold de
 have e : ((l.take q).map f).length = q := by rw [List.length_map, List.length_take]; omega
 rw [List.getElem?_append_right (by omega), e, Nat.sub_self, List.getElem?_drop, Nat.add_zero, List.getElem?_eq_getElem h]
theorem kj {α : Type} (f : α -> α) {l : List α} {q : Nat} (h : q < l.length) : (de f l q).set q (f l[q]) = de f l (q + 1) := by
 unfold de
 have e : ((l.take q).map f).length = q := by rw [List.length_map, List.length_take]; omega
 rw [<- List.take_append_getElem h, List.drop_eq_getElem_cons h, List.map_append, List.set_append_right _ _ (by omega), e, Nat.sub_self, List.append_assoc]
 rfl
section
variable {G : World -> Prop}
theorem acK (_hst : az G) (c1 c2 s b q : Nat) (i j : Int) (rows : List (List TV)) (k n : Int) (t : ByteArray) (hrow : rows[q]? = some [.int .i64 k, .int .i64 n, .str t]) : CtM Tryz.prog G 108 [.me s b 3 q 0, .cp c1 [.int .i64 i], .cp c2 [.int .i64 j]] [(s, b, .row 3 (rows))] (fun _ : Unit => True) (fun _ => [(s, b, .row 3 (rows.set q [.int .i64 k, .int .i64 (exN i j k n), .str t]))]) (fun _ => .tup []) := by
 refine aw Tryz.func108 rfl Tryz.ntmps108 rfl rfl rfl fun w0 R gs objsR hG hR => ?_
 obtain rfl := hR.eq
 clear hR
 refine bH (objs' := (s, b, _) :: R) (gy rfl) ?_
 rcases kw i j k n with ⟨h6, h1, e⟩ | ⟨h6, h1, h2, e⟩ | ⟨h6, h1, h2, e⟩ | ⟨h6, e⟩
 all_goals
   rw [e]
   try rw [mJ hrow]
   repeat' (first | refine V_ ?_ | refine bA ?_)
   exact kf x_ rfl () trivial rfl (.app _ R) (.refl _) rfl
theorem adD (_hst : az G) (c1 c2 s b q : Nat) (i j : Int) (rows : List (List TV)) (a0 a1 a2 : TV) (k n : Int) (t : ByteArray) (hrow : rows[q]? = some [a0, a1, a2, .int .i64 k, .int .i64 n, .str t]) : CtM Tryz.prog G 108 [.me s b 6 q 3, .cp c1 [.int .i64 i], .cp c2 [.int .i64 j]] [(s, b, .row 6 (rows))] (fun _ : Unit => True) (fun _ => [(s, b, .row 6 (rows.set q [a0, a1, a2, .int .i64 k, .int .i64 (exN i j k n), .str t]))]) (fun _ => .tup []) := by
 refine aw Tryz.func108 rfl Tryz.ntmps108 rfl rfl rfl fun w0 R gs objsR hG hR => ?_
 obtain rfl := hR.eq
 clear hR
 refine bH (objs' := (s, b, _) :: R) (gy rfl) ?_
 rcases kw i j k n with ⟨h6, h1, e⟩ | ⟨h6, h1, h2, e⟩ | ⟨h6, h1, h2, e⟩ | ⟨h6, e⟩
 all_goals
   rw [e]
   try rw [mJ hrow]
   repeat' (first | refine V_ ?_ | refine bA ?_)
   exact kf x_ rfl () trivial rfl (.app _ R) (.refl _) rfl
theorem acP (_hst : az G) (c1 c2 s b q : Nat) (i j : Int) (rows : List (List TV)) (a0 a1 a2 a3 a4 a5 a9 a10 a11 a12 a13 : TV) (k n : Int) (t : ByteArray) (hrow : rows[q]? = some [a0, a1, a2, a3, a4, a5, .int .i64 k, .int .i64 n, .str t, a9, a10, a11, a12, a13]) : CtM Tryz.prog G 108 [.me s b 14 q 6, .cp c1 [.int .i64 i], .cp c2 [.int .i64 j]] [(s, b, .row 14 (rows))] (fun _ : Unit => True) (fun _ => [(s, b, .row 14 (rows.set q [a0, a1, a2, a3, a4, a5, .int .i64 k, .int .i64 (exN i j k n), .str t, a9, a10, a11, a12, a13]))]) (fun _ => .tup []) := by
 refine aw Tryz.func108 rfl Tryz.ntmps108 rfl rfl rfl fun w0 R gs objsR hG hR => ?_
 obtain rfl := hR.eq
 clear hR
 refine bH (objs' := (s, b, _) :: R) (gy rfl) ?_
 rcases kw i j k n with ⟨h6, h1, e⟩ | ⟨h6, h1, h2, e⟩ | ⟨h6, h1, h2, e⟩ | ⟨h6, e⟩
 all_goals
   rw [e]
   try rw [mJ hrow]
   repeat' (first | refine V_ ?_ | refine bA ?_)
   exact kf x_ rfl () trivial rfl (.app _ R) (.refl _) rfl
theorem adc (_hst : az G) (c1 c2 s b : Nat) (i j : Int) (a0 a1 a2 a3 a4 a5 a6 a7 a8 a9 a10 a11 a12 a13 a14 a15 a19 : TV) (k n : Int) (t : ByteArray) : CtM Tryz.prog G 108 [.mp s b 16, .cp c1 [.int .i64 i], .cp c2 [.int .i64 j]] [(s, b, .box [a0, a1, a2, a3, a4, a5, a6, a7, a8, a9, a10, a11, a12, a13, a14, a15, .int .i64 k, .int .i64 n, .str t, a19])] (fun _ : Unit => True) (fun _ => [(s, b, .box [a0, a1, a2, a3, a4, a5, a6, a7, a8, a9, a10, a11, a12, a13, a14, a15, .int .i64 k, .int .i64 (exN i j k n), .str t, a19])]) (fun _ => .tup []) := by
 refine aw Tryz.func108 rfl Tryz.ntmps108 rfl rfl rfl fun w0 R gs objsR hG hR => ?_
 obtain rfl := hR.eq
 clear hR
 refine bH (objs' := (s, b, _) :: R) (gy rfl) ?_
 rcases kw i j k n with ⟨h6, h1, e⟩ | ⟨h6, h1, h2, e⟩ | ⟨h6, h1, h2, e⟩ | ⟨h6, e⟩
 all_goals
   rw [e]
   repeat' (first | refine V_ ?_ | refine ac ?_)
   exact kf x_ rfl () trivial rfl (.app _ R) (.refl _) rfl
theorem acb (hst : az G) (c1 c2 s9 b9 s b : Nat) (i j : Int) (l : List ab) (hl : l.length <= 1048576) : CtM Tryz.prog G 109 [.ms s b 0 l.length, .mp s9 b9 0] [(s9, b9, .box [.fn 108 [.cp c1 [.int .i64 i], .cp c2 [.int .i64 j]]]), (s, b, .row 3 (l.map (ab.tw 0)))] (fun _ : Unit => True) (fun _ => [(s9, b9, .box [.fn 108 [.cp c1 [.int .i64 i], .cp c2 [.int .i64 j]]]), (s, b, .row 3 ((l.map (exV i j)).map (ab.tw 0)))]) (fun _ => .tup []) := by
 refine aw Tryz.func109 rfl Tryz.ntmps109 rfl rfl rfl fun w0 R gs objsR hG hR => ?_
 obtain rfl := hR.eq
 clear hR
 refine bH (objs' := (s9, b9, _) :: (s, b, _) :: R) (gy rfl) ?_
 have hll := ab.len 0 l
 repeat' refine W_ ?_
 apply ak (X := Nat) [0, 1, 5, 1000000] (fun y => [(6, .int .i64 (y : Int))])
   (fun y => (s9, b9, .box [.fn 108 [.cp c1 [.int .i64 i], .cp c2 [.int .i64 j]]]) :: (s, b, .row 3 ((de (exV i j) l y).map (ab.tw 0))) :: R) (fun y => y <= l.length) (fun y => l.length - y) 0 (Nat.zero_le _)
 exact kp_; exact nw_
 ·exact gy (by rw [fF])
 intro q hq
 try dsimp only
 have hln : ((de (exV i j) l q).map (ab.tw 0)).length = l.length := by rw [List.length_map, dp]
 by_cases hlt : q < l.length
 ·have hrow : ((de (exV i j) l q).map (ab.tw 0))[q]? = some [.int .i64 l[q].kind, .int .i64 l[q].number, .str l[q].text] := by
    rw [List.getElem?_map, ka _ hlt]
    rfl
  have hset : ((de (exV i j) l q).map (ab.tw 0)).set q [.int .i64 l[q].kind, .int .i64 (exN i j l[q].kind l[q].number), .str l[q].text] = (de (exV i j) l (q + 1)).map (ab.tw 0) := by
    rw [<- kj _ hlt, List.map_set]
    rfl
  have hct := acK hst c1 c2 s b q i j _ _ _ _ hrow
  rw [hset] at hct
  generalize (de (exV i j) l q).map (ab.tw 0) = rows at hrow hln hct |-
  obtain ⟨rows2, hr2⟩ : ∃ r, r = (de (exV i j) l (q + 1)).map (ab.tw 0) := ⟨_, rfl⟩
  rw [<- hr2] at hct
  repeat' (first | refine W_ ?_ | ((with_reducible apply gq (id := 3) 4); kernel_rfl; kernel_rfl; kernel_rfl; (repeat (first | exact Cut.zero _ | apply Cut.succ))) | with_reducible refine fW (by kernel_rfl) (by kernel_rfl) ?_ | with_reducible refine iV ?_ | with_reducible refine f6 ?_ | with_reducible refine fU rfl ?_ | refine i5 rfl rfl rfl rr_ ?_ | refine fT rfl rfl rfl rr_ rfl rfl rfl ?_ | refine ep rfl rfl rfl rr_ rfl rfl ?_ | (refine oy rfl rfl rfl rr_ dd_ ?_) | (refine ox rfl rfl rfl rr_ dd_ ?_) | (refine dq rfl rfl rfl rr_ (fun hg => ?_) (fun hg => ?_)) | (refine cT rfl rfl rfl rr_ (fun hg => ?_) (fun hg => ?_)) | ((with_reducible apply d_y); exact y_; rfl))
  refine eY (.perm (List.Perm.swap _ _ _)) ?_
  repeat' (first | refine W_ ?_ | ((with_reducible apply gx); rfl; rfl; kernel_rfl; (repeat (first | exact aH.nil | ((with_reducible apply aH.cons); rfl))); rfl; exact hG; exact hct; exact .cons _ _ _ _ (.nil _); rintro ⟨⟩ -; refine bI ?_; refine bY (.perm (List.Perm.swap _ _ _)) ?_))
  exact ag (q + 1) (by omega) (by omega) (.of _ nw_ od_ (gy (by rw [hr2])))
 ·obtain rfl : q = l.length := by omega
  rw [gW]
  repeat' refine W_ ?_
  exact kf x_ rfl () trivial rfl (.app _ R) (.refl _) rfl
end
theorem cm (x : ao) (y : gF) : imC x y = [.ms y.1.1.1.1 y.1.1.1.2 0 x.base.classes.length, .ms y.1.2.1.1.1 y.1.2.1.1.2 0 x.base.codes.length, .ms y.1.2.2.1 y.1.2.2.2 0 x.base.entries.length, .int .i64 x.base.main,
 .ms y.2.1.1.1.1 y.2.1.1.1.2 0 x.store.classes.length, .ms y.2.1.2.1.1.1 y.2.1.2.1.1.2 0 x.store.objects.length, .ms y.2.1.2.2.1 y.2.1.2.2.2 0 x.store.output.length, .int .i64 x.store.ticks, .int .i64 x.store.budget, .int .i64 x.store.made,
 .ms y.2.2.1.1 y.2.2.1.2 0 x.blocks.length, .ms y.2.2.2.1.1.1 y.2.2.2.1.1.2 0 x.contexts.length, .ms y.2.2.2.2.1.1 y.2.2.2.2.1.2 0 x.processes.length, .ms y.2.2.2.2.2.1 y.2.2.2.2.2.2 0 x.ready.length, .int .i64 x.now, .int .i64 x.status, .int .i64 x.value.kind, .int .i64 x.value.number, .str x.value.text, .str x.fault] := rfl
def exO (i j : Int) (o : au) : au := ⟨o.kind, o.class_, o.fields.map (exV i j), o.numbers⟩
def exB (i j : Int) (b : aj) : aj := ⟨b.code, b.outer, b.home, exV i j b.self⟩
def exC (i j : Int) (c : ap) : ap := ⟨c.mark, c.code, c.pc, c.sender, c.outer, c.home, exV i j c.self, c.slots.map (exV i j), c.stack.map (exV i j), c.values.map (exV i j), c.other, c.retry⟩
def acN (m : ao) (os : List au) (bs : List aj) (cs : List ap) (v : ab) : ao := ⟨m.base, ⟨m.store.classes, os, m.store.output, m.store.ticks, m.store.budget, m.store.made⟩, bs, cs, m.processes, m.ready, m.now, m.status, v, m.fault⟩
theorem t7 (m : ao) : acN m m.store.objects m.blocks m.contexts m.value = m := rfl
def exI (m : ao) (i j : Int) : ao := acN m (m.store.objects.map (exO i j)) (m.blocks.map (exB i j)) (m.contexts.map (exC i j)) (exV i j m.value)
def uw (m : ao) (y : gF) : aG := cbO m.base y.1 ++ (sa m.store.classes y.2.1.1 ++ ([(y.2.1.2.2.1, y.2.1.2.2.2, .row 1 (bN m.store.output))] ++ ([(y.2.2.2.2.1.1, y.2.2.2.2.1.2, .row 2 (m.processes.map (ar.tw 0)))] ++ [(y.2.2.2.2.2.1, y.2.2.2.2.2.2, .row 1 (aS m.ready))])))
theorem kv (m : ao) (os : List au) (bs : List aj) (cs : List ap) (v : ab) (y : gF) : (imO (acN m os bs cs v) y).Perm (pu os y.2.1.2.1 ++ ((y.2.2.1.1, y.2.2.1.2, .row 6 (bs.map (aj.tw 0))) :: (nf cs y.2.2.2.1 ++ uw m y))) := by
 have h := dg (n := 8) [cbO m.base y.1, sa m.store.classes y.2.1.1, pu os y.2.1.2.1, [(y.2.1.2.2.1, y.2.1.2.2.2, aW.row 1 (bN m.store.output))], [(y.2.2.1.1, y.2.2.1.2, aW.row 6 (bs.map (aj.tw 0)))], nf cs y.2.2.2.1, [(y.2.2.2.2.1.1, y.2.2.2.2.1.2, aW.row 2 (m.processes.map (ar.tw 0)))], [(y.2.2.2.2.2.1, y.2.2.2.2.2.2, aW.row 1 (aS m.ready))]] [2, 4, 5, 0, 1, 3, 6, 7] rfl (by decide)
 simpa [imO, stO, acN, uw] using h.symm
theorem acA {m : ao} {y : gF} (h : imI m y) {os : List au} {bs : List aj} {cs : List ap} {v : ab} (ho : os.length = m.store.objects.length) (hc : cs.length = m.contexts.length) : imI (acN m os bs cs v) y := by
 obtain ⟨h1, ⟨h2, h3⟩, h4⟩ := h
 exact ⟨h1, ⟨h2, by show _ = os.length; rw [ho]; exact h3⟩, by show _ = cs.length; rw [hc]; exact h4⟩
theorem wU {α β γ : Type} (f : α -> β -> γ) (l : List α) (ps : List β) (i : Nat) (x : α) (p : β) : List.zipWith f (l.set i x) (ps.set i p) = (List.zipWith f l ps).set i (f x p) := by
 induction l generalizing ps i with
 | nil => simp
 | cons a l ih => cases ps <;> cases i <;> simp [ih]
theorem q9 {α β : Type} (mk : α -> β -> List TV) (ob : α -> β -> aG) (f : α -> α) (l : List α) (ps : List β) (hp : ps.length = l.length) {q : Nat} (hq : q < l.length) : ∃ p E, (nRg mk (de f l q) ps)[q]? = some (mk l[q] p) /\ nRg mk (de f l (q + 1)) ps = (nRg mk (de f l q) ps).set q (mk (f l[q]) p) /\ (nOg ob (de f l q) ps).Perm (ob l[q] p ++ E) /\ (nOg ob (de f l (q + 1)) ps).Perm (ob (f l[q]) p ++ E) := by
 have hpq : ps[q]? = some (ps[q]'(by omega)) := List.getElem?_eq_getElem _
 have hx := ka f hq
 have hs := kj f hq
 refine ⟨ps[q]'(by omega), ngE ob (de f l q) ps q, rk mk hx hpq, ?_, li ob hx hpq, ?_⟩
 ·rw [<- hs, wb mk hpq]
 ·rw [<- hs]
  exact aaK ob (by rw [dp]; exact hq) hpq
theorem tS {α β : Type} (mk : α -> β -> List TV) (ob : α -> β -> aG) (f : α -> α) (l : List α) (ps : List β) (hp : ps.length = l.length) {q : Nat} (hq : q < l.length) : ∃ p E, (nRg mk (de f l q) ps)[q]? = some (mk l[q] p) /\ (nOg ob (de f l q) ps).Perm (ob l[q] p ++ E) /\ ∀ p', nRg mk (de f l (q + 1)) (ps.set q p') = (nRg mk (de f l q) ps).set q (mk (f l[q]) p') /\ (nOg ob (de f l (q + 1)) (ps.set q p')).Perm (ob (f l[q]) p' ++ E) := by
 have hpq : ps[q]? = some (ps[q]'(by omega)) := List.getElem?_eq_getElem _
 have hx := ka f hq
 have hs := kj f hq
 have hml := dp f l q
 refine ⟨ps[q]'(by omega), ngE ob (de f l q) ps q, rk mk hx hpq, li ob hx hpq, fun p' => ⟨?_, ?_⟩⟩
 ·rw [<- hs]
  unfold nRg
  rw [wU]
 ·rw [<- hs]
  have h := li ob (l := (de f l q).set q (f l[q])) (ps := ps.set q p') (i := q) (p := p') (x := f l[q]) (by rw [List.getElem?_set_self (by omega)]) (by rw [List.getElem?_set_self (by omega)])
  have e : ngE ob ((de f l q).set q (f l[q])) (ps.set q p') q = ngE ob (de f l q) ps q := by
    unfold ngE
    rw [wU, kp]
  rwa [e] at h
theorem jv {n : Nat} {l : List ab} (i j : Int) (h : ∀ y ∈ l, ab.small n y) : ∀ y ∈ l.map (exV i j), ab.small n y := fun y hy => by
 obtain ⟨v, hv, rfl⟩ := List.mem_map.1 hy
 exact h v hv
theorem yY {m : ao} (hb : m.small 1048576) (i j : Int) : (exI m i j).small 1048576 := by
 refine ⟨hb.1, ⟨hb.2.1.1, ⟨by show (List.map _ _).length <= _; rw [List.length_map]; exact hb.2.1.2.1.1, fun y hy => ?_⟩, hb.2.1.2.2⟩, ⟨by show (List.map _ _).length <= _; rw [List.length_map]; exact hb.2.2.1.1, fun y hy => ?_⟩, ⟨by show (List.map _ _).length <= _; rw [List.length_map]; exact hb.2.2.2.1.1, fun y hy => ?_⟩, hb.2.2.2.2.1, hb.2.2.2.2.2.1, hb.2.2.2.2.2.2.1, hb.2.2.2.2.2.2.2⟩
 ·obtain ⟨o, ho, rfl⟩ := List.mem_map.1 hy
  have h := hb.2.1.2.1.2 o ho
  exact ⟨⟨by show (List.map _ _).length <= _; rw [List.length_map]; exact h.1.1, jv i j h.1.2⟩, h.2⟩
 ·obtain ⟨o, ho, rfl⟩ := List.mem_map.1 hy
  exact hb.2.2.1.2 o ho
 ·obtain ⟨o, ho, rfl⟩ := List.mem_map.1 hy
  have h := hb.2.2.2.1.2 o ho
  exact ⟨h.1, ⟨by show (List.map _ _).length <= _; rw [List.length_map]; exact h.2.1.1, jv i j h.2.1.2⟩, ⟨by show (List.map _ _).length <= _; rw [List.length_map]; exact h.2.2.1.1, jv i j h.2.2.1.2⟩, by show (List.map _ _).length <= _; rw [List.length_map]; exact h.2.2.2.1, jv i j h.2.2.2.2⟩
theorem aaZ (lo : Nat) (i j : Int) (v : ab) : (exV i j v).tw lo = [.int .i64 v.kind, .int .i64 (exN i j v.kind v.number), .str v.text] := rfl
section
variable {G : World -> Prop}
theorem wL (q : Int) : Ct Tryz.prog G 193 [.int .i64 q] (fun _ => .agg [.int .i64 6, .int .i64 q, .str ⟨#[]⟩]) := by
 refine aq Tryz.func193 rfl Tryz.ntmps193 rfl rfl fun w0 _ hG => ?_
 repeat' (first | refine W_ ?_ | (refine am ?_; intro ss bb) | refine ic ?_ | refine ac ?_)
 refine aI x_ rfl (.cell _ _ _ _ _ rfl mm_ (by kernel_rfl) (by kernel_rfl) (by kernel_rfl)) (fun _ => ?_)
 exact Fin.aggFlat (by simp [TV.flat]) rfl
theorem gX (hst : az G) (k n i j : Int) (t : ByteArray) (ht : k = 6 -> t = ⟨#[]⟩) : Ct Tryz.prog G 107 [.agg [.int .i64 k, .int .i64 n, .str t], .int .i64 i, .int .i64 j] (fun _ => .agg [.int .i64 k, .int .i64 (exN i j k n), .str t]) := by
 have hr1 := wL (G := G) i
 have hr2 := wL (G := G) j
 refine aq Tryz.func107 rfl Tryz.ntmps107 rfl rfl fun w0 _ hG => ?_
 by_cases h6 : k = 6
 ·rw [ht h6]
  by_cases h1 : n = i
  ·have e : exN i j k n = j := by unfold exN; rw [if_pos ⟨h6, h1⟩]
   rw [e, h6]
   repeat' (first | refine W_ ?_ | refine aM ?_ | (refine am ?_; intro ss bb) | refine ac ?_ | refine ad hG hst (hr2) ?_)
   refine aI x_ rfl (.cell _ _ _ _ _ rfl mm_ (by kernel_rfl) (by kernel_rfl) (by kernel_rfl)) (fun _ => ?_)
   exact Fin.aggFlat (by simp [TV.flat]) rfl
  ·by_cases h2 : n = j
   ·have e : exN i j k n = i := by unfold exN; rw [if_neg (fun h => h1 h.2), if_pos ⟨h6, h2⟩]
    rw [e, h6]
    repeat' (first | refine W_ ?_ | refine aM ?_ | (refine am ?_; intro ss bb) | refine ac ?_ | refine ad hG hst (hr1) ?_)
    refine aI x_ rfl (.cell _ _ _ _ _ rfl mm_ (by kernel_rfl) (by kernel_rfl) (by kernel_rfl)) (fun _ => ?_)
    exact Fin.aggFlat (by simp [TV.flat]) rfl
   ·have e : exN i j k n = n := by unfold exN; rw [if_neg (fun h => h1 h.2), if_neg (fun h => h2 h.2)]
    rw [e]
    repeat' (first | refine W_ ?_ | refine aM ?_ | (refine am ?_; intro ss bb) | refine ac ?_)
    refine aI x_ rfl (.cell _ _ _ _ _ rfl mm_ (by kernel_rfl) (by kernel_rfl) (by kernel_rfl)) (fun _ => ?_)
    exact Fin.aggFlat (by simp [TV.flat]) rfl
 ·have e : exN i j k n = n := by unfold exN; rw [if_neg (fun h => h6 h.1), if_neg (fun h => h6 h.1)]
  rw [e]
  repeat' (first | refine W_ ?_ | refine aM ?_ | (refine am ?_; intro ss bb) | refine ac ?_)
  refine aI x_ rfl (.cell _ _ _ _ _ rfl mm_ (by kernel_rfl) (by kernel_rfl) (by kernel_rfl)) (fun _ => ?_)
  exact Fin.aggFlat (by simp [TV.flat]) rfl
theorem mT (hst : az G) (lo : Nat) (i j : Int) (l : List ab) (hl : l.length <= 1048576) (hv : ∀ v ∈ l, v.kind = 6 -> v.text = ⟨#[]⟩) : CtM Tryz.prog G 106 [.sl lo 3 (l.map (ab.tw lo)), .int .i64 i, .int .i64 j] [] (fun _ : Nat × Nat => True) (fun y => [(y.1, y.2, .row 3 ((l.map (exV i j)).map (ab.tw 0)))]) (fun y => .ms y.1 y.2 0 l.length) := by
 refine aw Tryz.func106 rfl Tryz.ntmps106 rfl rfl rfl fun w0 R gs objsR hG hR => ?_
 obtain rfl := hR.inv0
 clear hR
 have hll := ab.len lo l
 repeat' (first | refine W_ ?_ | (refine la ?_; intro ss bb))
 generalize ss = so; generalize bb = bo
 apply ak (X := Nat × Nat) [0, 1, 2, 1000000] (fun y => [(8, .int .i64 (y.1 : Int)), (7, .ms so y.2 0 y.1)]) (fun y => (so, y.2, .row 3 (((l.take y.1).map (exV i j)).map (ab.tw 0))) :: R) (fun y => y.1 <= l.length) (fun y => l.length - y.1) (0, bo) (Nat.zero_le _)
 exact kp_; exact nw_
 ·exact .refl _
 rintro ⟨q, b2⟩ hq
 dsimp only at hq |-
 by_cases hlt : q < l.length
 ·have hgi : (l.map (ab.tw lo))[q]? = some (l[q].tw lo) := aK hlt
  have hln : (((l.take q).map (exV i j)).map (ab.tw 0)).length = q := by simp; omega
  have hsn : ((l.take q).map (exV i j)).map (ab.tw 0) ++ [(exV i j l[q]).tw 0] = ((l.take (q + 1)).map (exV i j)).map (ab.tw 0) := by rw [<- List.take_append_getElem hlt, List.map_append, List.map_append]; rfl
  have hvq := hv _ (List.getElem_mem hlt)
  generalize l[q] = v at hgi hsn hvq
  rw [aaZ] at hsn
  rw [show v.tw lo = [.int .i64 v.kind, .int .i64 v.number, .str v.text] from rfl] at hgi
  have hct := gX hst v.kind v.number i j v.text hvq
  generalize ((l.take q).map (exV i j)).map (ab.tw 0) = rows at hln hsn |-
  obtain ⟨rows2, hr2⟩ : ∃ r, r = ((l.take (q + 1)).map (exV i j)).map (ab.tw 0) := ⟨_, rfl⟩
  rw [<- hr2] at hsn
  repeat' (first | refine W_ ?_ | refine ad hG hst (hct) ?_ | refine dS ?_ | ((with_reducible apply er); rfl; rfl; rfl; kernel_rfl; (repeat (first | with_reducible exact mh | with_reducible refine mt ?_)); exact hln; exact (rfl : _ = 1); omega; exact hsn; (intro bq; (repeat (first | with_reducible exact Upd.head _ | with_reducible apply Upd.tail))); intro bb))
  exact ag (q + 1, bb) (by dsimp only; omega) (by dsimp only; omega) (.of _ nw_ od_ (gy (by rw [hr2])))
 ·obtain rfl : q = l.length := by omega
  rw [List.take_of_length_le (Nat.le_refl _)]
  repeat' refine W_ ?_
  exact av x_ rfl (so, b2) trivial rfl (.cons _ _ _ _ (.nil R)) pk_ (.tmp _ _ rfl) rfl
end
end Go.Proofs.YtiihihgjiklnoaaGreatDoor
