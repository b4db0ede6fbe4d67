/- Part 16 of the proof: the texts IvI, NiM. -/
import Derived.Test.YtofnnnpahglfdaaGreatDoorFo3
import Derived.Test.YtofnnnpahglfdaaGreatDoorFo12
import Derived.Test.YtofnnnpahglfdaaGreatDoorFo13
set_option linter.all false
set_option maxHeartbeats 4000000
set_option maxRecDepth 20000
namespace Go.Proofs.YtofnnnpahglfdaaGreatDoor
open Go Go.RowKit
section
variable {G : World -> Prop}
theorem ra (hst : aB G) (hse : ∀ s : ByteArray, s.size <= 1048576 -> Ct Tryz.prog G 182 [.str s] (fun _ => .bool (bY s.data.toList))) (hca : ∀ s : ByteArray, s.size <= 1048576 -> Ct Tryz.prog G 242 [.str s] (fun _ => .int .i64 (bQ s.data.toList)))
   (f lo : Nat) (cl : List aa) (cs : List aA) (es : List az) (mn : Int) (hcl : cl.length <= 1048576) (hcs : cs.length <= 1048576) (hes : es.length <= 1048576 /\ ∀ y ∈ es, az.small 1048576 y) :
   Ct Tryz.prog G 178 [.cp f [.sl lo 3 (cl.map (aa.tw lo)), .sl lo 4 (cs.map (aA.tw lo)), .sl lo 4 (es.map (az.tw lo)), .int .i64 mn]] (fun _ => .bool (fc cl.length cs es)) := by
 refine am Tryz.func178 rfl Tryz.ntmps178 rfl rfl fun w0 _ hG => ?_
 have hl1 := aa.len lo cl
 have hl2 := aA.len lo cs
 have hl3 := az.len lo es
 have hel := hes.1
 repeat' refine W_ ?_
 apply ak (X := Nat) [0] (fun i => [(3, .int .i64 (i : Int))]) (fun _ => []) (fun i => i <= es.length /\ ∀ j, j < i -> ∀ h : j < es.length, ey cl.length cs es[j] /\ dr es j es[j]) (fun i => es.length - i) 0 ⟨Nat.zero_le _, by omega⟩
 exact kp_; exact nw_
 ·exact .nil _
 rintro i ⟨hi, hk⟩
 try dsimp only
 by_cases hlt : i < es.length
 ·have hra := iV (lo := lo) hlt
  have hsm := hes.2 _ (List.getElem_mem hlt)
  have hbad : ¬ (ey cl.length cs es[i] /\ dr es i es[i]) -> fc cl.length cs es = false := mc hlt
  have hks : ey cl.length cs es[i] /\ dr es i es[i] -> ∀ j, j < i + 1 -> ∀ h : j < es.length, ey cl.length cs es[j] /\ dr es j es[j] := fun ho => bS hk fun _ => ho
  generalize es[i] = e at hra hsm hbad hks
  obtain ⟨ow, ec, sel, cd⟩ := e
  dsimp only at hra
  have hss : sel.size <= 1048576 := hsm
  have c1 := hse sel hss
  have c2 := hca sel hss
  have c3 := a7 (G := G) ow 16 ((cl.length : Int) - 1)
  have c4 := a7 (G := G) cd 0 ((cs.length : Int) - 1)
  by_cases h1 : bY sel.data.toList = true
  case neg =>
    rw [hbad fun h => h1 h.1.1.1]
    rw [Bool.eq_false_iff.2 h1] at c1
    repeat' (first | refine V_ ?_ | (refine aj ?_; intro ss bb) | refine ac ?_ | refine ae hG hst (c1) ?_)
    exact r1_
  by_cases h2 : inR ow 16 ((cl.length : Int) - 1) = true
  case neg =>
    rw [hbad fun h => h2 h.1.1.2.1]
    rw [h1] at c1
    rw [Bool.eq_false_iff.2 h2] at c3
    repeat' (first | refine V_ ?_ | (refine aj ?_; intro ss bb) | refine ac ?_ | refine ae hG hst (c1) ?_ | refine ae hG hst (c3) ?_)
    exact r1_
  by_cases h3 : inR cd 0 ((cs.length : Int) - 1) = true
  case neg =>
    rw [hbad fun h => h3 h.1.1.2.2]
    rw [h1] at c1
    rw [h2] at c3
    rw [Bool.eq_false_iff.2 h3] at c4
    repeat' (first | refine V_ ?_ | (refine aj ?_; intro ss bb) | refine ac ?_ | refine ae hG hst (c1) ?_ | refine ae hG hst (c3) ?_ | refine ae hG hst (c4) ?_)
    exact r1_
  have h3' := of_decide_eq_true h3
  obtain ⟨q, rfl⟩ : ∃ q : Nat, cd = q := ⟨cd.toNat, by omega⟩
  have hql : q < cs.length := by omega
  have hrq := bL (lo := lo) hql
  have hpl := gI (n := bQ sel.data.toList) rfl (List.getElem?_eq_getElem hql)
  generalize cs[q] = y at hrq hpl
  obtain ⟨yb, yp, ys, yi⟩ := y
  dsimp only at hrq hpl
  rw [h1] at c1
  rw [h2] at c3
  rw [h3, show (cs.length : Int) - 1 = ((cs.length - 1 : Nat) : Int) by omega] at c4
  cases yb
  case true =>
    rw [hbad fun h => by have := hpl.1 h.1.2; cases this.1]
    repeat' (first | refine V_ ?_ | (refine aj ?_; intro ss bb) | refine ac ?_ | refine ae hG hst (c1) ?_ | refine ae hG hst (c3) ?_ | refine ae hG hst (c4) ?_)
    exact r1_
  by_cases h5 : yp = bQ sel.data.toList
  case neg =>
    rw [hbad fun h => by have := hpl.1 h.1.2; exact h5 this.2]
    repeat' (first | refine V_ ?_ | (refine aj ?_; intro ss bb) | refine ac ?_ | refine ae hG hst (c1) ?_ | refine ae hG hst (c3) ?_ | refine ae hG hst (c4) ?_ | refine ae hG hst (c2) ?_)
    exact r1_
  have h5' : ¬ yp ≠ bQ sel.data.toList := fun h => h h5
  repeat' (first | refine V_ ?_ | (refine aj ?_; intro ss bb) | refine ac ?_ | refine ae hG hst (c1) ?_ | refine ae hG hst (c3) ?_ | refine ae hG hst (c4) ?_ | refine ae hG hst (c2) ?_)
  apply ak (X := Nat) [0, 3, 4] (fun k => [(5, .int .i64 (k : Int))]) (fun _ => [(ss, bb, .box [.int .i64 ow, .bool ec, .str sel, .int .i64 (q : Int)])]) (fun k => k <= i /\ ∀ y ∈ es.take k, ¬ ee ⟨ow, ec, sel, q⟩ y) (fun k => i - k) 0 ⟨Nat.zero_le _, by simp⟩
  exact kp_; exact nw_
  ·exact .refl _
  rintro k ⟨hki, hkn⟩
  try dsimp only
  by_cases hlk : k < i
  ·have hlk2 : k < es.length := by omega
   have hrk := iV (lo := lo) hlk2
   have hta := aV (p := fun y => ¬ ee ⟨ow, ec, sel, q⟩ y) hlk2 hkn
   have hmem : es[k] ∈ es.take i := List.mem_take_iff_getElem.2 ⟨k, by omega, rfl⟩
   generalize es[k] = z at hrk hta hmem
   obtain ⟨zo, zc, zs, zd⟩ := z
   dsimp only at hrk
   by_cases hz : ee ⟨ow, ec, sel, q⟩ ⟨zo, zc, zs, zd⟩
   ·rw [hbad fun h => h.2 _ hmem hz]
    obtain ⟨z1, z2, z3⟩ := hz
    dsimp only at z1 z2 z3
    have z4 : (zc == ec) = true := by rw [z2]; simp
    repeat' (first | refine V_ ?_ | refine c_ (fun hc => ?_) (fun hc => ?_))
    all_goals first
      | (exfalso; simp_all; done)
      | (exact r1_)
   ·have hnx := hta hz
    unfold ee at hz
    dsimp only at hz
    repeat' (first | refine V_ ?_ | refine c_ (fun hc => ?_) (fun hc => ?_) | refine g_ (fun hg => ?_) (fun hg => ?_))
    all_goals first
      | exact ag (k + 1) ⟨by omega, hnx⟩ (by omega) (.of _ nw_ od_ pk_)
      | (exfalso; simp_all; done)
  ·obtain rfl : k = i := by omega
   repeat' refine W_ ?_
   exact ag (k + 1) ⟨by omega, hks ⟨⟨⟨h1, h2, h3⟩, hpl.2 ⟨rfl, h5⟩⟩, hkn⟩⟩ (by omega) (.of _ nw_ od_ (de.nil _))
 ·rw [kt fun j hj => hk j (by omega)]
  repeat' refine W_ ?_
  exact r1_
end
theorem aaP {α β : Type} (mk : α -> β -> List TV) {l : List α} {ps : List β} {i : Nat} {p : β} {x : α} (hx : l[i]? = some x) (hp : ps[i]? = some p) : (nRg mk l ps)[i]? = some (mk x p) := by
 unfold nRg
 rw [List.getElem?_zipWith, hx, hp]
theorem zG {α β : Type} (mk : α -> β -> List TV) {l : List α} {ps : List β} {i : Nat} {p : β} {x : α} (hp : ps[i]? = some p) : nRg mk (l.set i x) ps = (nRg mk l ps).set i (mk x p) := nJ mk hp
theorem oe {a b : List aH} (h : a.Perm b) : a.flatten.Perm b.flatten := by
 induction h with
 | nil => exact .refl _
 | cons x _ ih => exact ih.append_left x
 | swap x y l => exact List.perm_append_comm_assoc y x l.flatten
 | trans _ _ h1 h2 => exact h1.trans h2
def ngE {α β : Type} (ob : α -> β -> aH) (l : List α) (ps : List β) (i : Nat) : aH := ((List.zipWith ob l ps).eraseIdx i).flatten
theorem wj {α β : Type} (ob : α -> β -> aH) {l : List α} {ps : List β} {i : Nat} {p : β} {x : α} (hx : l[i]? = some x) (hp : ps[i]? = some p) : (nOg ob l ps).Perm (ob x p ++ ngE ob l ps i) := by
 have h := oe (rv (l := List.zipWith ob l ps) (i := i) (x := ob x p) (by rw [List.getElem?_zipWith, hx, hp]))
 simpa [nOg, ngE] using h
theorem acN {α β : Type} (ob : α -> β -> aH) {l : List α} {ps : List β} {i : Nat} {p : β} {x : α} (hl : i < l.length) (hp : ps[i]? = some p) : (nOg ob (l.set i x) ps).Perm (ob x p ++ ngE ob l ps i) := by
 have h := wj ob (l := l.set i x) (ps := ps) (i := i) (p := p) (x := x) (by rw [List.getElem?_set_self hl]) hp
 have e : ngE ob (l.set i x) ps i = ngE ob l ps i := by
   unfold ngE
   rw [nJ _ hp, ng]
 rw [e] at h
 exact h
theorem ad2 (A B : List aH) (s : aH) : de (s :: (A ++ B)).flatten (A ++ s :: B).flatten := .perm (oe List.perm_middle).symm
theorem aap {a z1 z2 : Nat × Nat × bj} {N E : aH} (h : N.Perm ([z1, z2] ++ E)) (R : aH) : de (z1 :: z2 :: a :: (E ++ R)) (a :: (N ++ R)) := .perm (by
 have h1 : (a :: (N ++ R)).Perm (a :: (([z1, z2] ++ E) ++ R)) := (h.append_right R).cons a
 exact (List.perm_middle (l₁ := [z1, z2]) (l₂ := E ++ R) (a := a)).trans h1.symm)
theorem acI {a z1 z2 : Nat × Nat × bj} {N E : aH} (h : N.Perm ([z1, z2] ++ E)) (R : aH) : de (a :: (N ++ R)) (z2 :: z1 :: a :: (E ++ R)) := .perm (by
 have h1 : (a :: (N ++ R)).Perm (a :: (([z1, z2] ++ E) ++ R)) := (h.append_right R).cons a
 exact h1.trans ((List.perm_middle (l₁ := [z1, z2]) (l₂ := E ++ R) (a := a)).symm.trans (List.Perm.swap _ _ _)))
theorem aa3 {a z1 z2 z3 : Nat × Nat × bj} {N E : aH} (h : N.Perm ([z1, z2, z3] ++ E)) (R : aH) : de (z1 :: z2 :: z3 :: a :: (E ++ R)) (a :: (N ++ R)) := .perm (by
 have h1 : (a :: (N ++ R)).Perm (a :: (([z1, z2, z3] ++ E) ++ R)) := (h.append_right R).cons a
 exact (List.perm_middle (l₁ := [z1, z2, z3]) (l₂ := E ++ R) (a := a)).trans h1.symm)
theorem abU {a z1 z2 z3 : Nat × Nat × bj} {N E : aH} (h : N.Perm ([z1, z2, z3] ++ E)) (R : aH) : de (a :: (N ++ R)) (z3 :: z2 :: z1 :: a :: (E ++ R)) := .perm (by
 have h1 : (a :: (N ++ R)).Perm (a :: (([z1, z2, z3] ++ E) ++ R)) := (h.append_right R).cons a
 have h2 : (z3 :: z2 :: z1 :: a :: (E ++ R)).Perm (z1 :: z2 :: z3 :: a :: (E ++ R)) := ((List.Perm.swap z2 z3 _).trans ((List.Perm.swap z1 z3 _).cons z2)).trans ((List.Perm.swap z1 z2 _))
 exact h1.trans ((List.perm_middle (l₁ := [z1, z2, z3]) (l₂ := E ++ R) (a := a)).symm.trans h2.symm))
theorem act (z1 z2 z3 : Nat × Nat × bj) (R : aH) : de (z3 :: z2 :: z1 :: R) (z2 :: z1 :: z3 :: R) := .perm (List.perm_middle (l₁ := [z2, z1]) (l₂ := R) (a := z3)).symm
def og (k : Int) (_ : Int) : Int := k
def fC (k : Int) (_ : Int) : Int := k + 1
theorem re (l : List Int) : ∀ x ∈ l, ∀ q, q <= fC q x /\ fC q x <= q + (1 : Nat) := fun x _ q => by unfold fC; omega
def eV (k : Int) (_ : ad) : ad := ⟨k, k + 1, jr (k + 1 + 1)⟩
def aR (k : Int) (_ : ad) : Int := k + 1 + 1 + 1
theorem dt (l : List ad) : ∀ x ∈ l, ∀ q, q <= aR q x /\ aR q x <= q + (3 : Nat) := fun x _ q => by unfold aR; omega
def dz (k : Int) (_ : aq) : aq := ⟨k, k + 1, k + 1 + 1, ⟨k + 1 + 1 + 1, k + 1 + 1 + 1 + 1, jr (k + 1 + 1 + 1 + 1 + 1)⟩⟩
def a6 (k : Int) (_ : aq) : Int := k + 1 + 1 + 1 + 1 + 1 + 1
theorem iz (l : List aq) : ∀ x ∈ l, ∀ q, q <= a6 q x /\ a6 q x <= q + (6 : Nat) := fun x _ q => by unfold a6; omega
def dy (k : Int) (_ : au) : au := ⟨k, decide ((k + 1).tmod 3 = 0)⟩
def bw (k : Int) (_ : au) : Int := k + 1 + 1
theorem iE (l : List au) : ∀ x ∈ l, ∀ q, q <= bw q x /\ bw q x <= q + (2 : Nat) := fun x _ q => by unfold bw; omega
def co (k : Int) (x : ay) : ay := ⟨k, k + 1, mkL eV aR (k + 1 + 1) x.fields, mkL og fC (kL aR (k + 1 + 1) x.fields) x.numbers⟩
def bB (k : Int) (x : ay) : Int := kL fC (kL aR (k + 1 + 1) x.fields) x.numbers
theorem jO {l : List ay} (h : ∀ y ∈ l, ay.small 1048576 y) : ∀ x ∈ l, ∀ q, q <= bB q x /\ bB q x <= q + (4194306 : Nat) := fun x hx q => by
 have h1 := h x hx
 have h2 := h1.1.1
 have h3 := h1.2
 have h4 := jm (nx := aR) (l := x.fields) (k := q + 1 + 1) (dt _)
 have h5 := jm (nx := fC) (l := x.numbers) (k := kL aR (q + 1 + 1) x.fields) (re _)
 unfold bB
 omega
def k9 (k : Int) : Int := k + 1 + 1 + 1 + 1 + 1 + 1 + 1 + 1 + 1
def bJ (k : Int) (x : ap) : ap := ⟨k, k + 1, k + 1 + 1, k + 1 + 1 + 1, k + 1 + 1 + 1 + 1, k + 1 + 1 + 1 + 1 + 1, ⟨k + 1 + 1 + 1 + 1 + 1 + 1, k + 1 + 1 + 1 + 1 + 1 + 1 + 1, jr (k + 1 + 1 + 1 + 1 + 1 + 1 + 1 + 1)⟩, mkL eV aR (k9 k) x.slots, mkL eV aR (kL aR (k9 k) x.slots) x.stack, mkL eV aR (kL aR (kL aR (k9 k) x.slots) x.stack) x.values, kL aR (kL aR (kL aR (k9 k) x.slots) x.stack) x.values, decide ((kL aR (kL aR (kL aR (k9 k) x.slots) x.stack) x.values + 1).tmod 3 = 0)⟩
def aX (k : Int) (x : ap) : Int := kL aR (kL aR (kL aR (k9 k) x.slots) x.stack) x.values + 1 + 1
theorem ip {l : List ap} (h : ∀ y ∈ l, ap.small 1048576 y) : ∀ x ∈ l, ∀ q, q <= aX q x /\ aX q x <= q + (9437195 : Nat) := fun x hx q => by
 have h1 := h x hx
 have h2 := h1.2.1.1
 have h3 := h1.2.2.1.1
 have h4 := h1.2.2.2.1
 have h5 := jm (nx := aR) (l := x.slots) (k := k9 q) (dt _)
 have h6 := jm (nx := aR) (l := x.stack) (k := kL aR (k9 q) x.slots) (dt _)
 have h7 := jm (nx := aR) (l := x.values) (k := kL aR (kL aR (k9 q) x.slots) x.stack) (dt _)
 have h8 : k9 q = q + 9 := by unfold k9; omega
 unfold aX
 omega
section
variable {G : World -> Prop}
theorem lM (hst : aB G) (s b : Nat) (l : List Int) (k : Int) (hn : l.length <= 1048576) (hk : 0 <= k /\ k <= 1000000000000000) : CtM Tryz.prog G 56 [.ms s b 0 l.length, .int .i64 k] [(s, b, .row 1 (aS (l)))] (fun _ : Unit => True) (fun _ => [(s, b, .row 1 (aS (mkL og fC k l)))]) (fun _ => .int .i64 (kL fC k l)) := by
 refine aC Tryz.func56 rfl Tryz.ntmps56 rfl rfl rfl fun w0 R gs objsR hG hR => ?_
 obtain rfl := hR.inv1
 clear hR
 repeat' refine W_ ?_
 apply ak (X := Nat) [0, 1000000] (fun x => [(5, .int .i64 (x : Int)), (1, .int .i64 (kL fC k (l.take x)))]) (fun x => (s, b, .row 1 (aS (ptL og fC k l x))) :: R) (fun x => x <= l.length) (fun x => l.length - x) 0 (Nat.zero_le _)
 exact kp_; exact nw_
 ·exact .refl _
 intro i hi
 try dsimp only
 have hq := bK (k := k) (i := i) hn (re l) hi
 by_cases hlt : i < l.length
 ·have hrow : (aS (ptL og fC k l i))[i]? = some ((fun n : Int => [TV.int .i64 n]) l[i]) := by
    simp only [aS, List.getElem?_map, dP hlt]; rfl
  have hset : (aS (ptL og fC k l i)).set i ((fun n : Int => [TV.int .i64 n]) (og (kL fC k (l.take i)) l[i])) = aS (ptL og fC k l (i + 1)) := by
    rw [<- fA hlt]; simp [aS, List.map_set]
  have hks := eU (nx := fC) (k := k) hlt
  have hrl : (aS (ptL og fC k l i)).length = l.length := by simp [aS, cT hi]
  generalize aS (ptL og fC k l i) = rows at hrow hset hrl |-
  generalize kL fC k (l.take i) = q at hq hset hks |-
  generalize l[i] = x at hrow hset hks
  replace hrow : rows[i]? = some [.int .i64 x] := hrow
  have hks2 : kL fC k (l.take (i + 1)) = q + 1 := hks
  repeat' (first | refine W_ ?_ | refine bE ?_)
  refine ag (i + 1) (by omega) (by omega) (.of _ (dg.envCons rfl (dg.envCons (gf rfl (by rw [hks2])) dg.envNil)) od_ ?_)
  rw [<- hset]
  (try simp only [List.set_set])
  exact .refl _
 ·obtain rfl : i = l.length := by omega
  rw [eb, List.take_length]
  repeat' refine W_ ?_
  exact av x_ rfl () trivial rfl (.cons _ _ _ _ (.nil R)) pk_ (.tmp _ _ rfl) rfl
theorem eF (hst : aB G) (s b : Nat) (l : List ad) (k : Int) (hn : l.length <= 1048576) (hk : 0 <= k /\ k <= 1000000000000000) : CtM Tryz.prog G 135 [.ms s b 0 l.length, .int .i64 k] [(s, b, .row 3 ((l).map (ad.tw 0)))] (fun _ : Unit => True) (fun _ => [(s, b, .row 3 ((mkL eV aR k l).map (ad.tw 0)))]) (fun _ => .int .i64 (kL aR k l)) := by
 refine aC Tryz.func135 rfl Tryz.ntmps135 rfl rfl rfl fun w0 R gs objsR hG hR => ?_
 obtain rfl := hR.inv1
 clear hR
 repeat' refine W_ ?_
 apply ak (X := Nat) [0, 1000000] (fun x => [(5, .int .i64 (x : Int)), (1, .int .i64 (kL aR k (l.take x)))]) (fun x => (s, b, .row 3 ((ptL eV aR k l x).map (ad.tw 0))) :: R) (fun x => x <= l.length) (fun x => l.length - x) 0 (Nat.zero_le _)
 exact kp_; exact nw_
 ·exact .refl _
 intro i hi
 try dsimp only
 have hq := bK (k := k) (i := i) hn (dt l) hi
 by_cases hlt : i < l.length
 ·have hrow : ((ptL eV aR k l i).map (ad.tw 0))[i]? = some ((ad.tw 0) l[i]) := by
    simp only [aS, List.getElem?_map, dP hlt]; rfl
  have hset : ((ptL eV aR k l i).map (ad.tw 0)).set i ((ad.tw 0) (eV (kL aR k (l.take i)) l[i])) = (ptL eV aR k l (i + 1)).map (ad.tw 0) := by
    rw [<- fA hlt]; rw [List.map_set]
  have hks := eU (nx := aR) (k := k) hlt
  have hrl : ((ptL eV aR k l i).map (ad.tw 0)).length = l.length := by simp [aS, cT hi]
  generalize (ptL eV aR k l i).map (ad.tw 0) = rows at hrow hset hrl |-
  generalize kL aR k (l.take i) = q at hq hset hks |-
  generalize l[i] = x at hrow hset hks
  replace hrow : rows[i]? = some [.int .i64 x.kind, .int .i64 x.number, .str x.text] := hrow
  have hr1 : (rows.set i [.int .i64 q, .int .i64 x.number, .str x.text])[i]? = some [.int .i64 q, .int .i64 x.number, .str x.text] := by rw [List.getElem?_set_self (by omega)]
  have hks2 : kL aR k (l.take (i + 1)) = q + 1 + 1 + 1 := hks
  repeat' (first | refine W_ ?_ | refine bE ?_ | ((with_reducible apply lR); rfl; kernel_rfl; (repeat (first | exact ca.nil | ((with_reducible apply ca.cons); rfl; exact .same _))); exact hG; exact hst; exact dq _ (by omega) (by omega)))
  refine ag (i + 1) (by omega) (by omega) (.of _ (dg.envCons rfl (dg.envCons (gf rfl (by rw [hks2])) dg.envNil)) od_ ?_)
  rw [<- hset]
  (try simp only [List.set_set])
  exact .refl _
 ·obtain rfl : i = l.length := by omega
  rw [eb, List.take_length]
  repeat' refine W_ ?_
  exact av x_ rfl () trivial rfl (.cons _ _ _ _ (.nil R)) pk_ (.tmp _ _ rfl) rfl
theorem mD (hst : aB G) (s b : Nat) (l : List aq) (k : Int) (hn : l.length <= 1048576) (hk : 0 <= k /\ k <= 1000000000000000) : CtM Tryz.prog G 53 [.ms s b 0 l.length, .int .i64 k] [(s, b, .row 6 ((l).map (aq.tw 0)))] (fun _ : Unit => True) (fun _ => [(s, b, .row 6 ((mkL dz a6 k l).map (aq.tw 0)))]) (fun _ => .int .i64 (kL a6 k l)) := by
 refine aC Tryz.func53 rfl Tryz.ntmps53 rfl rfl rfl fun w0 R gs objsR hG hR => ?_
 obtain rfl := hR.inv1
 clear hR
 repeat' refine W_ ?_
 apply ak (X := Nat) [0, 1000000] (fun x => [(5, .int .i64 (x : Int)), (1, .int .i64 (kL a6 k (l.take x)))]) (fun x => (s, b, .row 6 ((ptL dz a6 k l x).map (aq.tw 0))) :: R) (fun x => x <= l.length) (fun x => l.length - x) 0 (Nat.zero_le _)
 exact kp_; exact nw_
 ·exact .refl _
 intro i hi
 try dsimp only
 have hq := bK (k := k) (i := i) hn (iz l) hi
 by_cases hlt : i < l.length
 ·have hrow : ((ptL dz a6 k l i).map (aq.tw 0))[i]? = some ((aq.tw 0) l[i]) := by
    simp only [aS, List.getElem?_map, dP hlt]; rfl
  have hset : ((ptL dz a6 k l i).map (aq.tw 0)).set i ((aq.tw 0) (dz (kL a6 k (l.take i)) l[i])) = (ptL dz a6 k l (i + 1)).map (aq.tw 0) := by
    rw [<- fA hlt]; rw [List.map_set]
  have hks := eU (nx := a6) (k := k) hlt
  have hrl : ((ptL dz a6 k l i).map (aq.tw 0)).length = l.length := by simp [aS, cT hi]
  generalize (ptL dz a6 k l i).map (aq.tw 0) = rows at hrow hset hrl |-
  generalize kL a6 k (l.take i) = q at hq hset hks |-
  generalize l[i] = x at hrow hset hks
  replace hrow : rows[i]? = some [.int .i64 x.code, .int .i64 x.outer, .int .i64 x.home, .int .i64 x.self.kind, .int .i64 x.self.number, .str x.self.text] := hrow
  have hr1 : (rows.set i [.int .i64 q, .int .i64 x.outer, .int .i64 x.home, .int .i64 x.self.kind, .int .i64 x.self.number, .str x.self.text])[i]? = some [.int .i64 q, .int .i64 x.outer, .int .i64 x.home, .int .i64 x.self.kind, .int .i64 x.self.number, .str x.self.text] := by rw [List.getElem?_set_self (by omega)]
  have hks2 : kL a6 k (l.take (i + 1)) = q + 1 + 1 + 1 + 1 + 1 + 1 := hks
  repeat' (first | refine W_ ?_ | refine bE ?_ | ((with_reducible apply lR); rfl; kernel_rfl; (repeat (first | exact ca.nil | ((with_reducible apply ca.cons); rfl; exact .same _))); exact hG; exact hst; exact dq _ (by omega) (by omega)))
  refine ag (i + 1) (by omega) (by omega) (.of _ (dg.envCons rfl (dg.envCons (gf rfl (by rw [hks2])) dg.envNil)) od_ ?_)
  rw [<- hset]
  (try simp only [List.set_set])
  exact .refl _
 ·obtain rfl : i = l.length := by omega
  rw [eb, List.take_length]
  repeat' refine W_ ?_
  exact av x_ rfl () trivial rfl (.cons _ _ _ _ (.nil R)) pk_ (.tmp _ _ rfl) rfl
theorem mz (hst : aB G) (s b : Nat) (l : List au) (k : Int) (hn : l.length <= 1048576) (hk : 0 <= k /\ k <= 1000000000000000) : CtM Tryz.prog G 55 [.ms s b 0 l.length, .int .i64 k] [(s, b, .row 2 ((l).map (au.tw 0)))] (fun _ : Unit => True) (fun _ => [(s, b, .row 2 ((mkL dy bw k l).map (au.tw 0)))]) (fun _ => .int .i64 (kL bw k l)) := by
 refine aC Tryz.func55 rfl Tryz.ntmps55 rfl rfl rfl fun w0 R gs objsR hG hR => ?_
 obtain rfl := hR.inv1
 clear hR
 repeat' refine W_ ?_
 apply ak (X := Nat) [0, 1000000] (fun x => [(5, .int .i64 (x : Int)), (1, .int .i64 (kL bw k (l.take x)))]) (fun x => (s, b, .row 2 ((ptL dy bw k l x).map (au.tw 0))) :: R) (fun x => x <= l.length) (fun x => l.length - x) 0 (Nat.zero_le _)
 exact kp_; exact nw_
 ·exact .refl _
 intro i hi
 try dsimp only
 have hq := bK (k := k) (i := i) hn (iE l) hi
 by_cases hlt : i < l.length
 ·have hrow : ((ptL dy bw k l i).map (au.tw 0))[i]? = some ((au.tw 0) l[i]) := by
    simp only [aS, List.getElem?_map, dP hlt]; rfl
  have hset : ((ptL dy bw k l i).map (au.tw 0)).set i ((au.tw 0) (dy (kL bw k (l.take i)) l[i])) = (ptL dy bw k l (i + 1)).map (au.tw 0) := by
    rw [<- fA hlt]; rw [List.map_set]
  have hks := eU (nx := bw) (k := k) hlt
  have hrl : ((ptL dy bw k l i).map (au.tw 0)).length = l.length := by simp [aS, cT hi]
  generalize (ptL dy bw k l i).map (au.tw 0) = rows at hrow hset hrl |-
  generalize kL bw k (l.take i) = q at hq hset hks |-
  generalize l[i] = x at hrow hset hks
  replace hrow : rows[i]? = some [.int .i64 x.at_, .bool x.main] := hrow
  have hr1 : (rows.set i [.int .i64 q, .bool x.main])[i]? = some [.int .i64 q, .bool x.main] := by rw [List.getElem?_set_self (by omega)]
  have hks2 : kL bw k (l.take (i + 1)) = q + 1 + 1 := hks
  repeat' (first | refine W_ ?_ | refine bE ?_)
  refine ag (i + 1) (by omega) (by omega) (.of _ (dg.envCons rfl (dg.envCons (gf rfl (by rw [hks2])) dg.envNil)) od_ ?_)
  rw [<- hset]
  (try simp only [List.set_set])
  exact .refl _
 ·obtain rfl : i = l.length := by omega
  rw [eb, List.take_length]
  repeat' refine W_ ?_
  exact av x_ rfl () trivial rfl (.cons _ _ _ _ (.nil R)) pk_ (.tmp _ _ rfl) rfl
theorem nr (hst : aB G) (s b : Nat) (l : List ay) (ps : List (Pl × Pl)) (hps : ps.length = l.length) (k : Int) (hn : l.length <= 1048576 /\ ∀ y ∈ l, ay.small 1048576 y) (hk : 0 <= k /\ k <= 100000000000000) :
   CtM Tryz.prog G 134 [.ms s b 0 l.length, .int .i64 k] ((s, b, .row 4 (nRg ib l ps)) :: nOg kI l ps) (fun _ : Unit => True) (fun _ => (s, b, .row 4 (nRg ib (mkL co bB k l) ps)) :: nOg kI (mkL co bB k l) ps) (fun _ => .int .i64 (kL bB k l)) := by
 refine aC Tryz.func134 rfl Tryz.ntmps134 rfl rfl rfl fun w0 R gs objsR hG hR => ?_
 obtain rfl := hR.eq
 clear hR
 obtain ⟨hn, hsm⟩ := hn
 repeat' refine W_ ?_
 apply ak (X := Nat) [0, 1000000] (fun x => [(5, .int .i64 (x : Int)), (1, .int .i64 (kL bB k (l.take x)))]) (fun x => (s, b, .row 4 (nRg ib (ptL co bB k l x) ps)) :: (nOg kI (ptL co bB k l x) ps ++ R)) (fun x => x <= l.length) (fun x => l.length - x) 0 (Nat.zero_le _)
 exact kp_; exact nw_
 ·exact .refl _
 intro i hi
 try dsimp only
 have hq := bK (k := k) (i := i) hn (jO hsm) hi
 by_cases hlt : i < l.length
 ·obtain ⟨p, hp⟩ : ∃ p, ps[i]? = some p := ⟨_, List.getElem?_eq_getElem (by omega)⟩
  have hpl : i < (ptL co bB k l i).length := by rw [cT hi]; exact hlt
  have hrow := aaP ib (dP (mk := co) (nx := bB) (k := k) hlt) hp
  have hset := zG ib (l := ptL co bB k l i) (x := co (kL bB k (l.take i)) l[i]) hp
  have hout := wj kI (dP (mk := co) (nx := bB) (k := k) hlt) hp
  have hin := acN kI (x := co (kL bB k (l.take i)) l[i]) hpl hp
  rw [fA hlt] at hset hin
  have hks := eU (nx := bB) (k := k) hlt
  have hrl : (nRg ib (ptL co bB k l i) ps).length = l.length := by rw [vt _ (by rw [cT hi]; exact hps), cT hi]
  have hb := hsm _ (List.getElem_mem hlt)
  generalize ngE kI (ptL co bB k l i) ps i = E at hout hin
  generalize nOg kI (ptL co bB k l i) ps = N0 at hout |-
  generalize nRg ib (ptL co bB k l i) ps = rows at hrow hset hrl |-
  generalize kL bB k (l.take i) = q at hq hset hks hin |-
  generalize l[i] = x at hrow hset hks hout hin hb
  replace hrow : rows[i]? = some [.int .i64 x.kind, .int .i64 x.class_, .ms p.1.1 p.1.2 0 x.fields.length, .ms p.2.1 p.2.2 0 x.numbers.length] := hrow
  have hr1 : (rows.set i [.int .i64 q, .int .i64 x.class_, .ms p.1.1 p.1.2 0 x.fields.length, .ms p.2.1 p.2.2 0 x.numbers.length])[i]? = some [.int .i64 q, .int .i64 x.class_, .ms p.1.1 p.1.2 0 x.fields.length, .ms p.2.1 p.2.2 0 x.numbers.length] := by rw [List.getElem?_set_self (by omega)]
  have hk1 := jm (nx := aR) (l := x.fields) (k := q + 1 + 1) (dt _)
  have hf1 := hb.1.1
  have hct1 := eF hst p.1.1 p.1.2 x.fields (q + 1 + 1) hb.1.1 (by omega)
  have hct2 := lM hst p.2.1 p.2.2 x.numbers (kL aR (q + 1 + 1) x.fields) hb.2 (by omega)
  repeat' (first | refine W_ ?_ | refine bE ?_)
  refine jM (aap hout R) ?_
  repeat' (first | refine W_ ?_ | ((with_reducible apply aG); rfl; kernel_rfl; (repeat (first | exact aF.nil | ((with_reducible apply aF.cons); rfl))); exact hG; exact hct1; exact .cons _ _ _ _ (.nil _); intro y hy; refine bm ?_; refine cI (.perm (List.Perm.swap _ _ _)) ?_) | ((with_reducible apply aG); rfl; kernel_rfl; (repeat (first | exact aF.nil | ((with_reducible apply aF.cons); rfl))); exact hG; exact hct2; exact .cons _ _ _ _ (.nil _); intro y hy; refine bm ?_))
  refine ag (i + 1) (by omega) (by omega) (.of _ (dg.envCons rfl (dg.envCons (gf rfl (by rw [hks]; rfl)) dg.envNil)) od_ ?_)
  rw [hset]
  simp only [List.set_set]
  have hcl : ib (co q x) p = [.int .i64 q, .int .i64 (q + 1), .ms p.1.1 p.1.2 0 x.fields.length, .ms p.2.1 p.2.2 0 x.numbers.length] := by
    unfold ib co
    dsimp only
    rw [da, da]
  rw [hcl]
  exact acI hin R
 ·obtain rfl : i = l.length := by omega
  rw [eb, List.take_length]
  repeat' refine W_ ?_
  exact av x_ rfl () trivial rfl (.cons _ _ _ _ (.app _ R)) (.refl _) (.tmp _ _ rfl) rfl
theorem mE (hst : aB G) (s b : Nat) (l : List ap) (ps : List (Pl × Pl × Pl)) (hps : ps.length = l.length) (k : Int) (hn : l.length <= 1048576 /\ ∀ y ∈ l, ap.small 1048576 y) (hk : 0 <= k /\ k <= 100000000000000) :
   CtM Tryz.prog G 54 [.ms s b 0 l.length, .int .i64 k] ((s, b, .row 14 (nRg ic l ps)) :: nOg kW l ps) (fun _ : Unit => True) (fun _ => (s, b, .row 14 (nRg ic (mkL bJ aX k l) ps)) :: nOg kW (mkL bJ aX k l) ps) (fun _ => .int .i64 (kL aX k l)) := by
 refine aC Tryz.func54 rfl Tryz.ntmps54 rfl rfl rfl fun w0 R gs objsR hG hR => ?_
 obtain rfl := hR.eq
 clear hR
 obtain ⟨hn, hsm⟩ := hn
 repeat' refine W_ ?_
 apply ak (X := Nat) [0, 1000000] (fun x => [(5, .int .i64 (x : Int)), (1, .int .i64 (kL aX k (l.take x)))]) (fun x => (s, b, .row 14 (nRg ic (ptL bJ aX k l x) ps)) :: (nOg kW (ptL bJ aX k l x) ps ++ R)) (fun x => x <= l.length) (fun x => l.length - x) 0 (Nat.zero_le _)
 exact kp_; exact nw_
 ·exact .refl _
 intro i hi
 try dsimp only
 have hq := bK (k := k) (i := i) hn (ip hsm) hi
 by_cases hlt : i < l.length
 ·obtain ⟨p, hp⟩ : ∃ p, ps[i]? = some p := ⟨_, List.getElem?_eq_getElem (by omega)⟩
  have hpl : i < (ptL bJ aX k l i).length := by rw [cT hi]; exact hlt
  have hrow := aaP ic (dP (mk := bJ) (nx := aX) (k := k) hlt) hp
  have hset := zG ic (l := ptL bJ aX k l i) (x := bJ (kL aX k (l.take i)) l[i]) hp
  have hout := wj kW (dP (mk := bJ) (nx := aX) (k := k) hlt) hp
  have hin := acN kW (x := bJ (kL aX k (l.take i)) l[i]) hpl hp
  rw [fA hlt] at hset hin
  have hks := eU (nx := aX) (k := k) hlt
  have hrl : (nRg ic (ptL bJ aX k l i) ps).length = l.length := by rw [vt _ (by rw [cT hi]; exact hps), cT hi]
  have hb := hsm _ (List.getElem_mem hlt)
  generalize ngE kW (ptL bJ aX k l i) ps i = E at hout hin
  generalize nOg kW (ptL bJ aX k l i) ps = N0 at hout |-
  generalize nRg ic (ptL bJ aX k l i) ps = rows at hrow hset hrl |-
  generalize kL aX k (l.take i) = q at hq hset hks hin |-
  generalize l[i] = x at hrow hset hks hout hin hb
  replace hrow : rows[i]? = some [.int .i64 x.mark, .int .i64 x.code, .int .i64 x.pc, .int .i64 x.sender, .int .i64 x.outer, .int .i64 x.home, .int .i64 x.self.kind, .int .i64 x.self.number, .str x.self.text, .ms p.1.1 p.1.2 0 x.slots.length, .ms p.2.1.1 p.2.1.2 0 x.stack.length, .ms p.2.2.1 p.2.2.2 0 x.values.length, .int .i64 x.other, .bool x.retry] := hrow
  have hr1 : (rows.set i [.int .i64 q, .int .i64 x.code, .int .i64 x.pc, .int .i64 x.sender, .int .i64 x.outer, .int .i64 x.home, .int .i64 x.self.kind, .int .i64 x.self.number, .str x.self.text, .ms p.1.1 p.1.2 0 x.slots.length, .ms p.2.1.1 p.2.1.2 0 x.stack.length, .ms p.2.2.1 p.2.2.2 0 x.values.length, .int .i64 x.other, .bool x.retry])[i]? = some [.int .i64 q, .int .i64 x.code, .int .i64 x.pc, .int .i64 x.sender, .int .i64 x.outer, .int .i64 x.home, .int .i64 x.self.kind, .int .i64 x.self.number, .str x.self.text, .ms p.1.1 p.1.2 0 x.slots.length, .ms p.2.1.1 p.2.1.2 0 x.stack.length, .ms p.2.2.1 p.2.2.2 0 x.values.length, .int .i64 x.other, .bool x.retry] := by rw [List.getElem?_set_self (by omega)]
  have hk0 : k9 q = q + 9 := by unfold k9; omega
  have hk1 := jm (nx := aR) (l := x.slots) (k := k9 q) (dt _)
  have hk2 := jm (nx := aR) (l := x.stack) (k := kL aR (k9 q) x.slots) (dt _)
  have hk3 := jm (nx := aR) (l := x.values) (k := kL aR (kL aR (k9 q) x.slots) x.stack) (dt _)
  have hf1 := hb.2.1.1
  have hf2 := hb.2.2.1.1
  have hf3 := hb.2.2.2.1
  have hct1 := eF hst p.1.1 p.1.2 x.slots (k9 q) hf1 (by omega)
  have hct2 := eF hst p.2.1.1 p.2.1.2 x.stack (kL aR (k9 q) x.slots) hf2 (by omega)
  have hct3 := eF hst p.2.2.1 p.2.2.2 x.values (kL aR (kL aR (k9 q) x.slots) x.stack) hf3 (by omega)
  rw [show k9 q = q + 1 + 1 + 1 + 1 + 1 + 1 + 1 + 1 + 1 from rfl] at hct1
  repeat' (first | refine W_ ?_ | refine bE ?_ | ((with_reducible apply lR); rfl; kernel_rfl; (repeat (first | exact ca.nil | ((with_reducible apply ca.cons); rfl; exact .same _))); exact hG; exact hst; exact dq _ (by omega) (by omega)))
  refine jM (aa3 hout R) ?_
  repeat' (first | refine W_ ?_ | refine bE ?_ | ((with_reducible apply aG); rfl; kernel_rfl; (repeat (first | exact aF.nil | ((with_reducible apply aF.cons); rfl))); exact hG; exact hct1; exact .cons _ _ _ _ (.nil _); intro y hy; refine bm ?_; refine cI (.perm (List.Perm.swap _ _ _)) ?_) | ((with_reducible apply aG); rfl; kernel_rfl; (repeat (first | exact aF.nil | ((with_reducible apply aF.cons); rfl))); exact hG; exact hct2; exact .cons _ _ _ _ (.nil _); intro y hy; refine bm ?_; refine cI (act _ _ _ _) ?_) | ((with_reducible apply aG); rfl; kernel_rfl; (repeat (first | exact aF.nil | ((with_reducible apply aF.cons); rfl))); exact hG; exact hct3; exact .cons _ _ _ _ (.nil _); intro y hy; refine bm ?_))
  refine ag (i + 1) (by omega) (by omega) (.of _ (dg.envCons rfl (dg.envCons (gf rfl (by rw [hks]; rfl)) dg.envNil)) od_ ?_)
  rw [hset]
  simp only [List.set_set]
  have hcl : ic (bJ q x) p = [.int .i64 q, .int .i64 (q + 1), .int .i64 (q + 1 + 1), .int .i64 (q + 1 + 1 + 1), .int .i64 (q + 1 + 1 + 1 + 1), .int .i64 (q + 1 + 1 + 1 + 1 + 1), .int .i64 (q + 1 + 1 + 1 + 1 + 1 + 1), .int .i64 (q + 1 + 1 + 1 + 1 + 1 + 1 + 1), .str (jr (q + 1 + 1 + 1 + 1 + 1 + 1 + 1 + 1)), .ms p.1.1 p.1.2 0 x.slots.length, .ms p.2.1.1 p.2.1.2 0 x.stack.length, .ms p.2.2.1 p.2.2.2 0 x.values.length, .int .i64 (kL aR (kL aR (kL aR (k9 q) x.slots) x.stack) x.values), .bool (decide ((kL aR (kL aR (kL aR (k9 q) x.slots) x.stack) x.values + 1).tmod 3 = 0))] := by
    unfold ic bJ
    dsimp only
    rw [da, da, da]
  rw [hcl]
  exact abU hin R
 ·obtain rfl : i = l.length := by omega
  rw [eb, List.take_length]
  repeat' refine W_ ?_
  exact av x_ rfl () trivial rfl (.cons _ _ _ _ (.app _ R)) (.refl _) (.tmp _ _ rfl) rfl
end
end Go.Proofs.YtofnnnpahglfdaaGreatDoor
