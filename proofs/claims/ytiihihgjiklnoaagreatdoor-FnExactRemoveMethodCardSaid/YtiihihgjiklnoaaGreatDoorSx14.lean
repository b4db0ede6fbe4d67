/- Part 14 of the proof. -/
import Derived.Test.YtiihihgjiklnoaaGreatDoorSx3
import Derived.Test.YtiihihgjiklnoaaGreatDoorSx8
import Derived.Test.YtiihihgjiklnoaaGreatDoorSx9
set_option maxHeartbeats 2000000
set_option maxRecDepth 20000
namespace Go.Proofs.YtiihihgjiklnoaaGreatDoor
open Go Go.RowKit
def mkL {α : Type} (mk : Int -> α -> α) (nx : Int -> α -> Int) : Int -> List α -> List α
 | _, [] => []
 | k, x :: r => mk k x :: mkL mk nx (nx k x) r
def kL {α : Type} (nx : Int -> α -> Int) (k : Int) (l : List α) : Int := l.foldl nx k
def ptL {α : Type} (mk : Int -> α -> α) (nx : Int -> α -> Int) (k : Int) (l : List α) (i : Nat) : List α := mkL mk nx k (l.take i) ++ l.drop i
section
variable {α : Type} {mk : Int -> α -> α} {nx : Int -> α -> Int}
theorem ch : ∀ (k : Int) (l : List α), (mkL mk nx k l).length = l.length
 | _, [] => rfl
 | k, x :: r => by simp [mkL, ch (nx k x) r]
theorem vX : ∀ (k : Int) (a b : List α), mkL mk nx k (a ++ b) = mkL mk nx k a ++ mkL mk nx (kL nx k a) b
 | _, [], b => rfl
 | k, x :: r, b => by
   show mk k x :: mkL mk nx (nx k x) (r ++ b) = mk k x :: (mkL mk nx (nx k x) r ++ mkL mk nx (kL nx (nx k x) r) b)
   rw [vX]
theorem cO {k : Int} {l : List α} {i : Nat} (h : i < l.length) : kL nx k (l.take (i + 1)) = nx (kL nx k (l.take i)) l[i] := by
 rw [cY h]
 unfold kL
 rw [List.foldl_append]; rfl
theorem dp {k : Int} {l : List α} {i : Nat} (h : i <= l.length) : (ptL mk nx k l i).length = l.length := by
 unfold ptL
 rw [List.length_append, ch, List.length_take, List.length_drop]; omega
theorem ej {k : Int} {l : List α} {i : Nat} (h : i < l.length) : (ptL mk nx k l i)[i]? = some l[i] := by
 unfold ptL
 rw [List.getElem?_append_right (by rw [ch, List.length_take]; omega), ch, List.length_take, show i - min i l.length = 0 by omega, List.drop_eq_getElem_cons h]; rfl
theorem fY {k : Int} {l : List α} {i : Nat} (h : i < l.length) : (ptL mk nx k l i).set i (mk (kL nx k (l.take i)) l[i]) = ptL mk nx k l (i + 1) := by
 unfold ptL
 rw [List.set_append_right _ _ (by rw [ch, List.length_take]; omega), ch, List.length_take, show i - min i l.length = 0 by omega, List.drop_eq_getElem_cons h, List.set_cons_zero, cY h, vX, List.append_assoc]; rfl
theorem eu (k : Int) (l : List α) : ptL mk nx k l l.length = mkL mk nx k l := by
 unfold ptL
 rw [List.take_length, List.drop_length, List.append_nil]
theorem fW {k : Int} {l : List α} {i : Nat} (h : i < l.length) : (mkL mk nx k l)[i]? = some (mk (kL nx k (l.take i)) l[i]) := by
 conv => lhs; rw [<- List.take_append_drop i l, vX]
 rw [List.getElem?_append_right (by rw [ch, List.length_take]; omega), ch, List.length_take, show i - min i l.length = 0 by omega, List.drop_eq_getElem_cons h]; rfl
theorem gW {c : Nat} : ∀ {l : List α} {k : Int}, (∀ x ∈ l, ∀ q, q <= nx q x /\ nx q x <= q + c) -> k <= kL nx k l /\ kL nx k l <= k + c * l.length
 | [], k, _ => by show k <= k /\ k <= k + _; simp
 | x :: r, k, h => by
   have h1 := h x List.mem_cons_self k
   have h2 := gW (l := r) (k := nx k x) (fun y hy => h y (List.mem_cons_of_mem _ hy))
   have e : kL nx k (x :: r) = kL nx (nx k x) r := rfl
   have e2 : (c : Int) * (((x :: r).length : Nat) : Int) = c * (r.length : Nat) + c := by rw [List.length_cons, Int.natCast_add, Int.mul_add]; simp
   rw [e, e2]
   omega
theorem aV {c : Nat} {l : List α} {k : Int} {i : Nat} {n : Nat} (hn : l.length <= n) (h : ∀ x ∈ l, ∀ q, q <= nx q x /\ nx q x <= q + c) (hi : i <= l.length) : k <= kL nx k (l.take i) /\ kL nx k (l.take i) <= k + c * n := by
 have h1 := gW (nx := nx) (c := c) (l := l.take i) (k := k) (fun x hx => h x (List.mem_of_mem_take hx))
 have h2 : (l.take i).length <= n := by rw [List.length_take]; omega
 have h3 : (c : Int) * ((l.take i).length : Nat) <= c * n := by exact_mod_cast Nat.mul_le_mul_left c h2
 omega
end
theorem aeX {α : Type} (ob : α -> ba) {l : List α} {ps : List (Nat × Nat)} {i : Nat} {p : Nat × Nat} {x : α} (hx : l[i]? = some x) (hp : ps[i]? = some p) : (nO ob l ps)[i]? = some (p.1, p.2, ob x) := by
 unfold nO
 rw [List.getElem?_zipWith, hx, hp]
theorem ac2 {α : Type} (mk : α -> Nat × Nat -> List TV) {l : List α} {ps : List (Nat × Nat)} {i : Nat} {p : Nat × Nat} {x : α} (hx : l[i]? = some x) (hp : ps[i]? = some p) : (nR mk l ps)[i]? = some (mk x p) := by
 unfold nR
 rw [List.getElem?_zipWith, hx, hp]
theorem nz {α β γ : Type} (f : α -> β -> γ) : ∀ {l : List α} {ps : List β} {i : Nat} {p : β} {x : α}, ps[i]? = some p -> List.zipWith f (l.set i x) ps = (List.zipWith f l ps).set i (f x p)
 | [], _, _, _, _, _ => by simp
 | _ :: _, [], _, _, _, h => by simp at h
 | a :: l, q :: ps, 0, p, x, h => by simp at h; subst h; simp
 | a :: l, q :: ps, i + 1, p, x, h => by
   have := nz f (l := l) (ps := ps) (i := i) (p := p) (x := x) (by simpa using h)
   simp [this]
theorem acS {α : Type} (mk : α -> Nat × Nat -> List TV) {l : List α} {ps : List (Nat × Nat)} {i : Nat} {p : Nat × Nat} {x : α} (hp : ps[i]? = some p) : nR mk (l.set i x) ps = (nR mk l ps).set i (mk x p) := nz mk hp
theorem ra {α : Type} : ∀ {l : List α} {i : Nat} {x : α}, l[i]? = some x -> l.Perm (x :: l.eraseIdx i)
 | [], _, _, h => by simp at h
 | a :: l, 0, x, h => by simp at h; subst h; exact .refl _
 | a :: l, i + 1, x, h => by
   have := ra (l := l) (i := i) (x := x) (by simpa using h)
   exact (this.cons a).trans (.swap x a _)
theorem nC {α : Type} : ∀ (l : List α) (i : Nat) (x : α), (l.set i x).eraseIdx i = l.eraseIdx i
 | [], _, _ => rfl
 | a :: l, 0, x => rfl
 | a :: l, i + 1, x => by simp [nC l i x]
theorem aaL {α : Type} (ob : α -> ba) {l : List α} {ps : List (Nat × Nat)} {i : Nat} {p : Nat × Nat} {x : α} (hx : l[i]? = some x) (hp : ps[i]? = some p) : (nO ob l ps).Perm ((p.1, p.2, ob x) :: (nO ob l ps).eraseIdx i) := ra (aeX ob hx hp)
theorem ae1 {α : Type} (ob : α -> ba) {l : List α} {ps : List (Nat × Nat)} {i : Nat} {p : Nat × Nat} {x : α} (hl : i < l.length) (hp : ps[i]? = some p) : (nO ob (l.set i x) ps).Perm ((p.1, p.2, ob x) :: (nO ob l ps).eraseIdx i) := by
 have h := aaL ob (l := l.set i x) (ps := ps) (i := i) (p := p) (x := x) (by rw [List.getElem?_set_self hl]) hp
 have e : (nO ob (l.set i x) ps).eraseIdx i = (nO ob l ps).eraseIdx i := by
   unfold nO
   rw [nz _ hp, nC]
 rw [e] at h
 exact h
theorem wV {a z : Nat × Nat × ba} {N E : aI} (h : N.Perm (z :: E)) (R : aI) : cC (z :: a :: (E ++ R)) (a :: (N ++ R)) := .perm (by
 have h1 : (a :: (N ++ R)).Perm (a :: z :: (E ++ R)) := ((h.append_right R)).cons a
 exact (List.Perm.swap a z _).trans h1.symm)
theorem abk {a z : Nat × Nat × ba} {N E : aI} (h : N.Perm (z :: E)) (R : aI) : cC (a :: (N ++ R)) (z :: a :: (E ++ R)) := .perm (by
 have h1 : (a :: (N ++ R)).Perm (a :: z :: (E ++ R)) := ((h.append_right R)).cons a
 exact h1.trans (List.Perm.swap z a _))
theorem qW (A B C : aI) : cC (B ++ (A ++ C)) (A ++ (B ++ C)) := .perm (by
 rw [<- List.append_assoc, <- List.append_assoc]
 exact List.perm_append_comm.append_right C)
def cX (k : Int) (_ : ByteArray) : ByteArray := dN k
def bs (k : Int) (_ : ByteArray) : Int := k + 1
theorem eY (l : List ByteArray) : ∀ x ∈ l, ∀ q, q <= bs q x /\ bs q x <= q + (1 : Nat) := fun x _ q => by unfold bs; omega
theorem acE (l : List ByteArray) (k : Nat) (s : ByteArray) : (cg l).set k [TV.str s] = cg (l.set k s) := by simp [cg, List.map_set]
def ef (k : Int) (_ : ah) : ah := ⟨k, k + 1, k + 1 + 1, dN (k + 1 + 1 + 1)⟩
def bE (k : Int) (_ : ah) : Int := k + 1 + 1 + 1 + 1
theorem jz (l : List ah) : ∀ x ∈ l, ∀ q, q <= bE q x /\ bE q x <= q + (4 : Nat) := fun x _ q => by unfold bE; omega
def ex (k : Int) (_ : ar) : ar := ⟨k, decide ((k + 1).tmod 3 = 0), dN (k + 1 + 1), k + 1 + 1 + 1⟩
def bM (k : Int) (_ : ar) : Int := k + 1 + 1 + 1 + 1
theorem jA (l : List ar) : ∀ x ∈ l, ∀ q, q <= bM q x /\ bM q x <= q + (4 : Nat) := fun x _ q => by unfold bM; omega
def aZ (k : Int) (x : aa) : aa := ⟨dN (k), k + 1, mkL cX bs (k + 1 + 1) x.fields⟩
def aC (k : Int) (x : aa) : Int := kL bs (k + 1 + 1) x.fields
theorem cA {l : List aa} (h : ∀ y ∈ l, aa.small 1048576 y) : ∀ x ∈ l, ∀ q, q <= aC q x /\ aC q x <= q + (1048578 : Nat) := fun x hx q => by
 have h1 := h x hx
 have h2 := h1.2.1
 have h3 := gW (nx := bs) (l := x.fields) (k := q + 1 + 1) (eY _)
 unfold aC
 omega
def dH (k : Int) (x : az) : az := ⟨decide ((k).tmod 3 = 0), k + 1, k + 1 + 1, mkL ef bE (k + 1 + 1 + 1) x.instrs⟩
def bV (k : Int) (x : az) : Int := kL bE (k + 1 + 1 + 1) x.instrs
theorem iS {l : List az} (h : ∀ y ∈ l, az.small 1048576 y) : ∀ x ∈ l, ∀ q, q <= bV q x /\ bV q x <= q + (4194307 : Nat) := fun x hx q => by
 have h1 := h x hx
 have h2 := h1.1
 have h3 := gW (nx := bE) (l := x.instrs) (k := q + 1 + 1 + 1) (jz _)
 unfold bV
 omega
section
variable {G : World -> Prop}
theorem i9 (hst : ay G) (s b : Nat) (l : List ByteArray) (k : Int) (hn : l.length <= 1048576) (hk : 0 <= k /\ k <= 1000000000000000) : CtM Tryz.prog G 28 [.ms s b 0 l.length, .int .i64 k] [(s, b, .row 1 (cg (l)))] (fun _ : Unit => True) (fun _ => [(s, b, .row 1 (cg (mkL cX bs k l)))]) (fun _ => .int .i64 (kL bs k l)) := by
 refine aA Tryz.func28 rfl Tryz.ntmps28 rfl rfl rfl fun w0 R gs objsR hG hR => ?_
 obtain rfl := hR.inv1
 clear hR
 repeat' refine W_ ?_
 apply aj (X := Nat) [0, 1000000] (fun x => [(5, .int .i64 (x : Int)), (1, .int .i64 (kL bs k (l.take x)))]) (fun x => (s, b, .row 1 (cg (ptL cX bs k l x))) :: R) (fun x => x <= l.length) (fun x => l.length - x) 0 (Nat.zero_le _)
 exact kp_; exact nw_
 ·exact .refl _
 intro i hi
 try dsimp only
 have hq := aV (k := k) (i := i) hn (eY l) hi
 by_cases hlt : i < l.length
 ·have hrow : (cg (ptL cX bs k l i))[i]? = some ((fun s : ByteArray => [TV.str s]) l[i]) := by
    simp only [cg, List.getElem?_map, ej hlt]; rfl
  have hset : (cg (ptL cX bs k l i)).set i ((fun s : ByteArray => [TV.str s]) (cX (kL bs k (l.take i)) l[i])) = cg (ptL cX bs k l (i + 1)) := by
    rw [<- fY hlt, acE]
  have hks := cO (nx := bs) (k := k) hlt
  have hrl : (cg (ptL cX bs k l i)).length = l.length := by simp [cg, dp hi]
  generalize cg (ptL cX bs k l i) = rows at hrow hset hrl |-
  generalize kL bs k (l.take i) = q at hq hset hks |-
  generalize l[i] = x at hrow hset hks
  replace hrow : rows[i]? = some [.str x] := hrow
  have hks2 : kL bs k (l.take (i + 1)) = q + 1 := hks
  repeat' (first | refine W_ ?_ | refine bg ?_ | ((with_reducible apply mE); rfl; kernel_rfl; (repeat (first | exact bI.nil | ((with_reducible apply bI.cons); rfl; exact .same _))); exact hG; exact hst; exact bS _ (by omega) (by omega)))
  refine ag (i + 1) (by omega) (by omega) (.of _ (cw.envCons rfl (cw.envCons (dB rfl (by rw [hks2])) cw.envNil)) od_ ?_)
  rw [<- hset]
  (try simp only [])
  exact .refl _
 ·obtain rfl : i = l.length := by omega
  rw [eu, List.take_length]
  repeat' refine W_ ?_
  exact aw x_ rfl () trivial rfl (.cons _ _ _ _ (.nil R)) pk_ (.tmp _ _ rfl) rfl
theorem pz (hst : ay G) (s b : Nat) (l : List ah) (k : Int) (hn : l.length <= 1048576) (hk : 0 <= k /\ k <= 1000000000000000) : CtM Tryz.prog G 149 [.ms s b 0 l.length, .int .i64 k] [(s, b, .row 4 ((l).map (ah.tw 0)))] (fun _ : Unit => True) (fun _ => [(s, b, .row 4 ((mkL ef bE k l).map (ah.tw 0)))]) (fun _ => .int .i64 (kL bE k l)) := by
 refine aA Tryz.func149 rfl Tryz.ntmps149 rfl rfl rfl fun w0 R gs objsR hG hR => ?_
 obtain rfl := hR.inv1
 clear hR
 repeat' refine W_ ?_
 apply aj (X := Nat) [0, 1000000] (fun x => [(5, .int .i64 (x : Int)), (1, .int .i64 (kL bE k (l.take x)))]) (fun x => (s, b, .row 4 ((ptL ef bE k l x).map (ah.tw 0))) :: R) (fun x => x <= l.length) (fun x => l.length - x) 0 (Nat.zero_le _)
 exact kp_; exact nw_
 ·exact .refl _
 intro i hi
 try dsimp only
 have hq := aV (k := k) (i := i) hn (jz l) hi
 by_cases hlt : i < l.length
 ·have hrow : ((ptL ef bE k l i).map (ah.tw 0))[i]? = some ((ah.tw 0) l[i]) := by
    simp only [List.getElem?_map, ej hlt]; rfl
  have hset : ((ptL ef bE k l i).map (ah.tw 0)).set i ((ah.tw 0) (ef (kL bE k (l.take i)) l[i])) = (ptL ef bE k l (i + 1)).map (ah.tw 0) := by
    rw [<- fY hlt, List.map_set]
  have hks := cO (nx := bE) (k := k) hlt
  have hrl : ((ptL ef bE k l i).map (ah.tw 0)).length = l.length := by simp [dp hi]
  generalize (ptL ef bE k l i).map (ah.tw 0) = rows at hrow hset hrl |-
  generalize kL bE k (l.take i) = q at hq hset hks |-
  generalize l[i] = x at hrow hset hks
  replace hrow : rows[i]? = some [.int .i64 x.op, .int .i64 x.a, .int .i64 x.b, .str x.text] := hrow
  have hr1 : (rows.set i [.int .i64 q, .int .i64 x.a, .int .i64 x.b, .str x.text])[i]? = some [.int .i64 q, .int .i64 x.a, .int .i64 x.b, .str x.text] := by rw [List.getElem?_set_self (by omega)]
  have hks2 : kL bE k (l.take (i + 1)) = q + 1 + 1 + 1 + 1 := hks
  repeat' (first | refine W_ ?_ | refine bg ?_ | ((with_reducible apply mE); rfl; kernel_rfl; (repeat (first | exact bI.nil | ((with_reducible apply bI.cons); rfl; exact .same _))); exact hG; exact hst; exact bS _ (by omega) (by omega)))
  refine ag (i + 1) (by omega) (by omega) (.of _ (cw.envCons rfl (cw.envCons (dB rfl (by rw [hks2])) cw.envNil)) od_ ?_)
  rw [<- hset]
  (try simp only [List.set_set])
  exact .refl _
 ·obtain rfl : i = l.length := by omega
  rw [eu, List.take_length]
  repeat' refine W_ ?_
  exact aw x_ rfl () trivial rfl (.cons _ _ _ _ (.nil R)) pk_ (.tmp _ _ rfl) rfl
theorem pj (hst : ay G) (s b : Nat) (l : List ar) (k : Int) (hn : l.length <= 1048576) (hk : 0 <= k /\ k <= 1000000000000000) : CtM Tryz.prog G 67 [.ms s b 0 l.length, .int .i64 k] [(s, b, .row 4 ((l).map (ar.tw 0)))] (fun _ : Unit => True) (fun _ => [(s, b, .row 4 ((mkL ex bM k l).map (ar.tw 0)))]) (fun _ => .int .i64 (kL bM k l)) := by
 refine aA Tryz.func67 rfl Tryz.ntmps67 rfl rfl rfl fun w0 R gs objsR hG hR => ?_
 obtain rfl := hR.inv1
 clear hR
 repeat' refine W_ ?_
 apply aj (X := Nat) [0, 1000000] (fun x => [(5, .int .i64 (x : Int)), (1, .int .i64 (kL bM k (l.take x)))]) (fun x => (s, b, .row 4 ((ptL ex bM k l x).map (ar.tw 0))) :: R) (fun x => x <= l.length) (fun x => l.length - x) 0 (Nat.zero_le _)
 exact kp_; exact nw_
 ·exact .refl _
 intro i hi
 try dsimp only
 have hq := aV (k := k) (i := i) hn (jA l) hi
 by_cases hlt : i < l.length
 ·have hrow : ((ptL ex bM k l i).map (ar.tw 0))[i]? = some ((ar.tw 0) l[i]) := by
    simp only [List.getElem?_map, ej hlt]; rfl
  have hset : ((ptL ex bM k l i).map (ar.tw 0)).set i ((ar.tw 0) (ex (kL bM k (l.take i)) l[i])) = (ptL ex bM k l (i + 1)).map (ar.tw 0) := by
    rw [<- fY hlt, List.map_set]
  have hks := cO (nx := bM) (k := k) hlt
  have hrl : ((ptL ex bM k l i).map (ar.tw 0)).length = l.length := by simp [dp hi]
  generalize (ptL ex bM k l i).map (ar.tw 0) = rows at hrow hset hrl |-
  generalize kL bM k (l.take i) = q at hq hset hks |-
  generalize l[i] = x at hrow hset hks
  replace hrow : rows[i]? = some [.int .i64 x.owner, .bool x.class_, .str x.selector, .int .i64 x.code] := hrow
  have hr1 : (rows.set i [.int .i64 q, .bool x.class_, .str x.selector, .int .i64 x.code])[i]? = some [.int .i64 q, .bool x.class_, .str x.selector, .int .i64 x.code] := by rw [List.getElem?_set_self (by omega)]
  have hks2 : kL bM k (l.take (i + 1)) = q + 1 + 1 + 1 + 1 := hks
  repeat' (first | refine W_ ?_ | refine bg ?_ | ((with_reducible apply mE); rfl; kernel_rfl; (repeat (first | exact bI.nil | ((with_reducible apply bI.cons); rfl; exact .same _))); exact hG; exact hst; exact bS _ (by omega) (by omega)))
  refine ag (i + 1) (by omega) (by omega) (.of _ (cw.envCons rfl (cw.envCons (dB rfl (by rw [hks2])) cw.envNil)) od_ ?_)
  rw [<- hset]
  (try simp only [List.set_set])
  exact .refl _
 ·obtain rfl : i = l.length := by omega
  rw [eu, List.take_length]
  repeat' refine W_ ?_
  exact aw x_ rfl () trivial rfl (.cons _ _ _ _ (.nil R)) pk_ (.tmp _ _ rfl) rfl
theorem gE (hst : ay G) (s b : Nat) (l : List aa) (ps : List (Nat × Nat)) (hps : ps.length = l.length) (k : Int) (hn : l.length <= 1048576 /\ ∀ y ∈ l, aa.small 1048576 y) (hk : 0 <= k /\ k <= 100000000000000) :
   CtM Tryz.prog G 65 [.ms s b 0 l.length, .int .i64 k] ((s, b, .row 3 (nR eS l ps)) :: nO fT l ps) (fun _ : Unit => True) (fun _ => (s, b, .row 3 (nR eS (mkL aZ aC k l) ps)) :: nO fT (mkL aZ aC k l) ps) (fun _ => .int .i64 (kL aC k l)) := by
 refine aA Tryz.func65 rfl Tryz.ntmps65 rfl rfl rfl fun w0 R gs objsR hG hR => ?_
 obtain rfl := hR.eq
 clear hR
 obtain ⟨hn, hsm⟩ := hn
 repeat' refine W_ ?_
 apply aj (X := Nat) [0, 1000000] (fun x => [(5, .int .i64 (x : Int)), (1, .int .i64 (kL aC k (l.take x)))]) (fun x => (s, b, .row 3 (nR eS (ptL aZ aC k l x) ps)) :: (nO fT (ptL aZ aC k l x) ps ++ R)) (fun x => x <= l.length) (fun x => l.length - x) 0 (Nat.zero_le _)
 exact kp_; exact nw_
 ·exact .refl _
 intro i hi
 try dsimp only
 have hq := aV (k := k) (i := i) hn (cA hsm) hi
 by_cases hlt : i < l.length
 ·obtain ⟨p, hp⟩ : ∃ p, ps[i]? = some p := ⟨_, List.getElem?_eq_getElem (by omega)⟩
  have hpl : i < (ptL aZ aC k l i).length := by rw [dp hi]; exact hlt
  have hrow := ac2 eS (ej (mk := aZ) (nx := aC) (k := k) hlt) hp
  have hset := acS eS (l := ptL aZ aC k l i) (x := aZ (kL aC k (l.take i)) l[i]) hp
  have hout := aaL fT (ej (mk := aZ) (nx := aC) (k := k) hlt) hp
  have hin := ae1 fT (x := aZ (kL aC k (l.take i)) l[i]) hpl hp
  rw [fY hlt] at hset hin
  have hks := cO (nx := aC) (k := k) hlt
  have hrl : (nR eS (ptL aZ aC k l i) ps).length = l.length := by rw [oO _ (by rw [dp hi]; exact hps), dp hi]
  have hb := hsm _ (List.getElem_mem hlt)
  generalize (nO fT (ptL aZ aC k l i) ps).eraseIdx i = E at hout hin
  generalize nO fT (ptL aZ aC k l i) ps = N0 at hout |-
  generalize nR eS (ptL aZ aC k l i) ps = rows at hrow hset hrl |-
  generalize kL aC k (l.take i) = q at hq hset hks hin |-
  generalize l[i] = x at hrow hset hks hout hin hb
  replace hrow : rows[i]? = some [.str x.name, .int .i64 x.parent, .ms p.1 p.2 0 x.fields.length] := hrow
  have hr1 : (rows.set i [.str (dN (q)), .int .i64 x.parent, .ms p.1 p.2 0 x.fields.length])[i]? = some [.str (dN (q)), .int .i64 x.parent, .ms p.1 p.2 0 x.fields.length] := by rw [List.getElem?_set_self (by omega)]
  have hct := i9 hst p.1 p.2 x.fields (q + 1 + 1) hb.2.1 (by omega)
  repeat' (first | refine W_ ?_ | refine bg ?_ | ((with_reducible apply mE); rfl; kernel_rfl; (repeat (first | exact bI.nil | ((with_reducible apply bI.cons); rfl; exact .same _))); exact hG; exact hst; exact bS _ (by omega) (by omega)))
  refine i6 (wV hout R) ?_
  repeat' (first | refine W_ ?_ | ((with_reducible apply aJ); rfl; kernel_rfl; (repeat (first | exact aH.nil | ((with_reducible apply aH.cons); rfl))); exact hG; exact hct; exact .cons _ _ _ _ (.nil _); intro y hy; refine bN ?_))
  refine ag (i + 1) (by omega) (by omega) (.of _ (cw.envCons rfl (cw.envCons (dB rfl (by rw [hks]; rfl)) cw.envNil)) od_ ?_)
  rw [hset]
  simp only [List.set_set]
  have hcl : eS (aZ q x) p = [.str (dN (q)), .int .i64 (q + 1), .ms p.1 p.2 0 x.fields.length] := by
    unfold eS aZ
    dsimp only
    rw [ch]
  rw [hcl]
  exact abk hin R
 ·obtain rfl : i = l.length := by omega
  rw [eu, List.take_length]
  repeat' refine W_ ?_
  exact aw x_ rfl () trivial rfl (.cons _ _ _ _ (.app _ R)) (.refl _) (.tmp _ _ rfl) rfl
theorem rM (hst : ay G) (s b : Nat) (l : List az) (ps : List (Nat × Nat)) (hps : ps.length = l.length) (k : Int) (hn : l.length <= 1048576 /\ ∀ y ∈ l, az.small 1048576 y) (hk : 0 <= k /\ k <= 100000000000000) :
   CtM Tryz.prog G 66 [.ms s b 0 l.length, .int .i64 k] ((s, b, .row 4 (nR ey l ps)) :: nO fx l ps) (fun _ : Unit => True) (fun _ => (s, b, .row 4 (nR ey (mkL dH bV k l) ps)) :: nO fx (mkL dH bV k l) ps) (fun _ => .int .i64 (kL bV k l)) := by
 refine aA Tryz.func66 rfl Tryz.ntmps66 rfl rfl rfl fun w0 R gs objsR hG hR => ?_
 obtain rfl := hR.eq
 clear hR
 obtain ⟨hn, hsm⟩ := hn
 repeat' refine W_ ?_
 apply aj (X := Nat) [0, 1000000] (fun x => [(5, .int .i64 (x : Int)), (1, .int .i64 (kL bV k (l.take x)))]) (fun x => (s, b, .row 4 (nR ey (ptL dH bV k l x) ps)) :: (nO fx (ptL dH bV k l x) ps ++ R)) (fun x => x <= l.length) (fun x => l.length - x) 0 (Nat.zero_le _)
 exact kp_; exact nw_
 ·exact .refl _
 intro i hi
 try dsimp only
 have hq := aV (k := k) (i := i) hn (iS hsm) hi
 by_cases hlt : i < l.length
 ·obtain ⟨p, hp⟩ : ∃ p, ps[i]? = some p := ⟨_, List.getElem?_eq_getElem (by omega)⟩
  have hpl : i < (ptL dH bV k l i).length := by rw [dp hi]; exact hlt
  have hrow := ac2 ey (ej (mk := dH) (nx := bV) (k := k) hlt) hp
  have hset := acS ey (l := ptL dH bV k l i) (x := dH (kL bV k (l.take i)) l[i]) hp
  have hout := aaL fx (ej (mk := dH) (nx := bV) (k := k) hlt) hp
  have hin := ae1 fx (x := dH (kL bV k (l.take i)) l[i]) hpl hp
  rw [fY hlt] at hset hin
  have hks := cO (nx := bV) (k := k) hlt
  have hrl : (nR ey (ptL dH bV k l i) ps).length = l.length := by rw [oO _ (by rw [dp hi]; exact hps), dp hi]
  have hb := hsm _ (List.getElem_mem hlt)
  generalize (nO fx (ptL dH bV k l i) ps).eraseIdx i = E at hout hin
  generalize nO fx (ptL dH bV k l i) ps = N0 at hout |-
  generalize nR ey (ptL dH bV k l i) ps = rows at hrow hset hrl |-
  generalize kL bV k (l.take i) = q at hq hset hks hin |-
  generalize l[i] = x at hrow hset hks hout hin hb
  replace hrow : rows[i]? = some [.bool x.block, .int .i64 x.params, .int .i64 x.slots, .ms p.1 p.2 0 x.instrs.length] := hrow
  have hr1 : (rows.set i [.bool (decide ((q).tmod 3 = 0)), .int .i64 x.params, .int .i64 x.slots, .ms p.1 p.2 0 x.instrs.length])[i]? = some [.bool (decide ((q).tmod 3 = 0)), .int .i64 x.params, .int .i64 x.slots, .ms p.1 p.2 0 x.instrs.length] := by rw [List.getElem?_set_self (by omega)]
  have hct := pz hst p.1 p.2 x.instrs (q + 1 + 1 + 1) hb.1 (by omega)
  repeat' (first | refine W_ ?_ | refine bg ?_)
  refine i6 (wV hout R) ?_
  repeat' (first | refine W_ ?_ | ((with_reducible apply aJ); rfl; kernel_rfl; (repeat (first | exact aH.nil | ((with_reducible apply aH.cons); rfl))); exact hG; exact hct; exact .cons _ _ _ _ (.nil _); intro y hy; refine bN ?_))
  refine ag (i + 1) (by omega) (by omega) (.of _ (cw.envCons rfl (cw.envCons (dB rfl (by rw [hks]; rfl)) cw.envNil)) od_ ?_)
  rw [hset]
  simp only [List.set_set]
  have hcl : ey (dH q x) p = [.bool (decide ((q).tmod 3 = 0)), .int .i64 (q + 1), .int .i64 (q + 1 + 1), .ms p.1 p.2 0 x.instrs.length] := by
    unfold ey dH
    dsimp only
    rw [ch]
  rw [hcl]
  exact abk hin R
 ·obtain rfl : i = l.length := by omega
  rw [eu, List.take_length]
  repeat' refine W_ ?_
  exact aw x_ rfl () trivial rfl (.cons _ _ _ _ (.app _ R)) (.refl _) (.tmp _ _ rfl) rfl
end
def qe (l : List aa) (y : (Nat × Nat) × List (Nat × Nat)) : aI := (y.1.1, y.1.2, .row 3 (nR eS l y.2)) :: nO fT l y.2
def aer (l : List az) (y : (Nat × Nat) × List (Nat × Nat)) : aI := (y.1.1, y.1.2, .row 4 (nR ey l y.2)) :: nO fx l y.2
def adG (l : List ar) (y : Nat × Nat) : aI := [(y.1, y.2, .row 4 (l.map (ar.tw 0)))]
def CbP : Type := ((Nat × Nat) × List (Nat × Nat)) × ((Nat × Nat) × List (Nat × Nat)) × (Nat × Nat)
def cbO (x : aB) (y : CbP) : aI := qe x.classes y.1 ++ (aer x.codes y.2.1 ++ adG x.entries y.2.2)
def cbC (x : aB) (y : CbP) : List TV := [.ms y.1.1.1 y.1.1.2 0 x.classes.length, .ms y.2.1.1.1 y.2.1.1.2 0 x.codes.length, .ms y.2.2.1 y.2.2.2 0 x.entries.length, .int .i64 x.main]
def cbI (x : aB) (y : CbP) : Prop := y.1.2.length = x.classes.length /\ y.2.1.2.length = x.codes.length
theorem jn (A : aI) (x z : Nat × Nat × ba) (R : aI) : cC (x :: z :: (A ++ R)) (A ++ (x :: z :: R)) := .perm (by
 have h1 : (A ++ (x :: z :: R)).Perm (x :: (A ++ (z :: R))) := List.perm_middle
 have h2 : (A ++ (z :: R)).Perm (z :: (A ++ R)) := List.perm_middle
 exact (h1.trans (h2.cons x)).symm)
theorem vk (A B C R : aI) : ((A ++ (B ++ C)) ++ R).Perm (C ++ (B ++ (A ++ R))) := by
 have h1 : (A ++ (B ++ C)).Perm (C ++ (B ++ A)) := by
   have : (A ++ (B ++ C)).Perm ((B ++ C) ++ A) := List.perm_append_comm
   refine this.trans ?_
   have h2 : ((B ++ C) ++ A).Perm ((C ++ B) ++ A) := (List.perm_append_comm).append_right A
   rw [List.append_assoc] at h2
   rw [List.append_assoc] at h2 |-
   exact h2
 have h3 := h1.append_right R
 simpa [List.append_assoc] using h3
theorem rm (A B C R : aI) : cC (C ++ (A ++ (B ++ R))) (B ++ (A ++ (C ++ R))) := .perm (by
 have h1 : (C ++ (A ++ B)).Perm (B ++ (A ++ C)) := by
   have h := (vk C A B [])
   simpa using h
 simpa [List.append_assoc] using h1.append_right R)
theorem qd (A B C R : aI) : cC (A ++ (B ++ (C ++ R))) (C ++ (A ++ (B ++ R))) := .perm (by
 have h1 : (A ++ (B ++ C)).Perm (C ++ (A ++ B)) := by
   rw [<- List.append_assoc]
   exact List.perm_append_comm
 simpa [List.append_assoc] using h1.append_right R)
section
variable {G : World -> Prop}
theorem o9 (hst : ay G) (lo : Nat) (x : aB) (hb : x.small 1048576) : CtM Tryz.prog G 14 [.agg (x.tw lo)] [] (cbI x) (cbO x) (fun y => .agg (cbC x y)) := by
 refine aA Tryz.func14 rfl Tryz.ntmps14 rfl rfl rfl fun w0 R gs objsR hG hR => ?_
 obtain rfl := hR.inv0
 clear hR
 have c1 := iP hst lo x.classes hb.1
 have c2 := vV hst lo x.codes hb.2.1
 have c3 := uL hst lo x.entries hb.2.2
 unfold aB.tw
 repeat' (first | refine W_ ?_ | refine aL ?_ | (refine ai ?_; intro ss bb) | refine ac ?_ | ((with_reducible apply aJ); rfl; kernel_rfl; (repeat (first | exact aH.nil | ((with_reducible apply aH.cons); rfl))); exact hG; (first | exact c1 | exact c2 | exact c3); exact .nil _; intro y hy; refine cm (jn _ _ _ _) ?_))
 rename_i yc hyc yd hyd
 refine aw (t1 := .agg [.ms yc.1.1 yc.1.2 0 x.classes.length, .ms yd.1.1 yd.1.2 0 x.codes.length, .ms y.1 y.2 0 x.entries.length, .int .i64 x.main]) x_ rfl (yc, yd, y) ⟨hyc, hyd⟩ rfl (.app _ R) (.drop (.drop (.perm (vk _ _ _ R)))) (.cell _ _ _ _ _ rfl mm_ (by kernel_rfl) (by kernel_rfl) (by kernel_rfl)) rfl
def cP (k : Int) (x : aB) : aB := ⟨mkL aZ aC k x.classes, mkL dH bV (kL aC k x.classes) x.codes, mkL ex bM (kL bV (kL aC k x.classes) x.codes) x.entries, x.main⟩
def a7 (k : Int) (x : aB) : Int := kL bM (kL bV (kL aC k x.classes) x.codes) x.entries
theorem im {x : aB} (hb : x.small 1048576) (k : Int) : k <= a7 k x /\ a7 k x <= k + 6000000000000 := by
 have h1 := aV (k := k) (i := x.classes.length) hb.1.1 (cA hb.1.2) (Nat.le_refl _)
 have h2 := aV (k := kL aC k x.classes) (i := x.codes.length) hb.2.1.1 (iS hb.2.1.2) (Nat.le_refl _)
 have h3 := aV (k := kL bV (kL aC k x.classes) x.codes) (i := x.entries.length) hb.2.2.1 (jA x.entries) (Nat.le_refl _)
 rw [List.take_length] at h1 h2 h3
 unfold a7
 omega
theorem mM (hst : ay G) (x : aB) (y : CbP) (hy : cbI x y) (hb : x.small 1048576) (k : Int) (hk : 0 <= k /\ k <= 50000000000000) :
   CtM Tryz.prog G 18 [.agg (cbC x y), .int .i64 k] (cbO x y) (fun _ : Unit => True) (fun _ => cbO (cP k x) y) (fun _ => .int .i64 (a7 k x)) := by
 refine aA Tryz.func18 rfl Tryz.ntmps18 rfl rfl rfl fun w0 R gs objsR hG hR => ?_
 obtain rfl := hR.eq
 clear hR
 have h1 := aV (k := k) (i := x.classes.length) hb.1.1 (cA hb.1.2) (Nat.le_refl _)
 have h2 := aV (k := kL aC k x.classes) (i := x.codes.length) hb.2.1.1 (iS hb.2.1.2) (Nat.le_refl _)
 rw [List.take_length] at h1 h2
 have c1 := gE hst y.1.1.1 y.1.1.2 x.classes y.1.2 hy.1 k hb.1 (by omega)
 have c2 := rM hst y.2.1.1.1 y.2.1.1.2 x.codes y.2.1.2 hy.2 (kL aC k x.classes) hb.2.1 (by omega)
 have c3 := pj hst y.2.2.1 y.2.2.2 x.entries (kL bV (kL aC k x.classes) x.codes) hb.2.2.1 (by omega)
 have e0 : cbO x y ++ R = qe x.classes y.1 ++ (aer x.codes y.2.1 ++ (adG x.entries y.2.2 ++ R)) := by unfold cbO; simp [List.append_assoc]
 have e1 : cbO (cP k x) y ++ R = qe (cP k x).classes y.1 ++ (aer (cP k x).codes y.2.1 ++ (adG (cP k x).entries y.2.2 ++ R)) := by unfold cbO; simp [List.append_assoc]
 rw [e0]
 unfold cbC
 repeat' (first | refine W_ ?_ | refine aL ?_ | ((with_reducible apply aJ); rfl; kernel_rfl; (repeat (first | exact aH.nil | ((with_reducible apply aH.cons); rfl))); exact hG; exact c1; exact .app _ _; intro z hz; refine cm (qW _ _ _) ?_) | ((with_reducible apply aJ); rfl; kernel_rfl; (repeat (first | exact aH.nil | ((with_reducible apply aH.cons); rfl))); exact hG; exact c2; exact .app _ _; intro z hz; refine cm (rm _ _ _ _) ?_) | ((with_reducible apply aJ); rfl; kernel_rfl; (repeat (first | exact aH.nil | ((with_reducible apply aH.cons); rfl))); exact hG; exact c3; exact .app _ _; intro z hz))
 refine aw x_ rfl () trivial rfl (.app _ R) ?_ (.tmp _ _ rfl) rfl
 rw [e1]
 exact qd _ _ _ R
end
def eb (objs : aI) (l l' : List TV) : Prop := l'.length = l.length /\ ∀ (j : Nat) (t t' : TV), l[j]? = some t -> l'[j]? = some t' -> bR objs t t'
theorem eb.nil {objs : aI} : eb objs [] [] := ⟨rfl, by simp⟩
theorem eb.cons {objs : aI} {t t' : TV} {l l' : List TV} (h : bR objs t t') (hr : eb objs l l') : eb objs (t :: l) (t' :: l') := ⟨by simp [hr.1], fun j u u' h1 h2 => by
 cases j with
 | zero => simp at h1 h2; subst h1; subst h2; exact h
 | succ j => exact hr.2 j u u' (by simpa using h1) (by simpa using h2)⟩
theorem eb.append {objs : aI} {a a' b b' : List TV} (h : eb objs a a') (k : eb objs b b') : eb objs (a ++ b) (a' ++ b') := ⟨by simp [h.1, k.1], fun j u u' h1 h2 => by
 by_cases hj : j < a.length
 ·rw [List.getElem?_append_left hj] at h1
  rw [List.getElem?_append_left (by rw [h.1]; exact hj)] at h2
  exact h.2 j u u' h1 h2
 ·rw [List.getElem?_append_right (by omega)] at h1
  rw [List.getElem?_append_right (by rw [h.1]; omega)] at h2
  rw [h.1] at h2
  exact k.2 _ u u' h1 h2⟩
theorem ux {α : Type} {objs : aI} {f : α -> List TV} {mk : α -> Nat × Nat -> List TV} {ob : α -> ba} (h : ∀ x p, (p.1, p.2, ob x) ∈ objs -> eb objs (mk x p) (f x)) : ∀ (l : List α) (ps : List (Nat × Nat)), ps.length = l.length -> (∀ o ∈ nO ob l ps, o ∈ objs) -> eb objs (nR mk l ps).flatten (l.map f).flatten /\ (l.map f).map List.length = (nR mk l ps).map List.length
 | [], ps, hl, _ => by simp [nR, eb]
 | x :: l, [], hl, _ => by simp at hl
 | x :: l, p :: ps, hl, hm => by
   have h1 := h x p (hm _ (by simp [nO]))
   obtain ⟨h2, h3⟩ := ux h l ps (by simpa using hl) (fun o ho => hm o (by simp only [nO, List.zipWith_cons_cons, List.mem_cons]; exact .inr ho))
   exact ⟨h1.append h2, by
     show (f x).length :: (l.map f).map List.length = (mk x p).length :: (nR mk l ps).map List.length
     rw [h3, h1.1]⟩
theorem qP {α : Type} {objs : aI} {f : α -> List TV} {mk : α -> Nat × Nat -> List TV} {ob : α -> ba} {m s b : Nat} (h : ∀ x p, (p.1, p.2, ob x) ∈ objs -> eb objs (mk x p) (f x)) {l : List α} {ps : List (Nat × Nat)} (hl : ps.length = l.length) (hm : (s, b, ba.row m (nR mk l ps)) ∈ objs) (hp : ∀ o ∈ nO ob l ps, o ∈ objs) : bR objs (.ms s b 0 l.length) (.sl 0 m (l.map f)) := by
 obtain ⟨h1, h2⟩ := ux h l ps hl hp
 have h3 := oO mk hl
 exact .ms s b 0 l.length m _ _ _ hm (by omega) rfl (by rw [List.drop_zero, List.take_of_length_le (by omega)]; exact h2) (by rw [List.drop_zero, List.take_of_length_le (by omega)]; exact h1.2)
theorem wZ {objs : aI} (x : aa) (p : Nat × Nat) (h : (p.1, p.2, fT x) ∈ objs) : eb objs (eS x p) (x.tw 0) := .cons (.same _) (.cons (.same _) (.cons (.msAll h (bJ _)) .nil))
theorem acG {objs : aI} (x : az) (p : Nat × Nat) (h : (p.1, p.2, fx x) ∈ objs) : eb objs (ey x p) (x.tw 0) := .cons (.same _) (.cons (.same _) (.cons (.same _) (.cons (.msAll h (by simp)) .nil)))
theorem sa {α : Type} (mk : α -> Nat × Nat -> List TV) {l : List α} {ps : List (Nat × Nat)} {i : Nat} (h : i < l.length) (hp : ps.length = i) (p : Nat × Nat) : nR mk (l.take i) ps ++ [mk l[i] p] = nR mk (l.take (i + 1)) (ps ++ [p]) := by
 unfold nR
 rw [cY h, List.zipWith_append (by rw [List.length_take]; omega)]; rfl
section
variable {G : World -> Prop}
theorem iR (_hst : ay G) (lo : Nat) (l : List aa) (hb : l.length <= 1048576 /\ ∀ y ∈ l, aa.small 1048576 y) : CtM Tryz.prog G 141 [.sl lo 3 (l.map (aa.tw lo))] [] (fun y : (Nat × Nat) × List (Nat × Nat) => y.2.length = l.length) (fun y => (y.1.1, y.1.2, .row 3 (nR eS l y.2)) :: nO fT l y.2) (fun y => .ms y.1.1 y.1.2 0 l.length) := by
 refine aA Tryz.func141 rfl Tryz.ntmps141 rfl rfl rfl fun w0 R gs objsR hG hR => ?_
 obtain rfl := hR.inv0
 clear hR
 have hlen := aa.len lo l
 have hl1 := hb.1
 repeat' (first | refine W_ ?_ | (refine kE ?_; intro ss bb))
 generalize ss = so; generalize bb = bo
 apply aj (X := Nat × Nat × List (Nat × Nat)) [7, 8, 1000000] (fun x => [(9, .int .i64 (x.1 : Int)), (3, .ms so x.2.1 0 x.1)]) (fun x => (so, x.2.1, .row 3 (nR eS (l.take x.1) x.2.2)) :: (nO fT (l.take x.1) x.2.2 ++ R)) (fun x => x.1 <= l.length /\ x.2.2.length = x.1) (fun x => l.length - x.1) (0, bo, []) ⟨Nat.zero_le _, rfl⟩
 exact kp_; exact nw_
 ·exact .refl _
 rintro ⟨i, bo, ps⟩ ⟨hi, hps⟩
 dsimp only at hi hps |-
 by_cases hlt : i < l.length
 ·have hrs := fun p => sa eS hlt hps p
  have hos := fun p => lS fT hlt hps p
  have hra : (l.map (aa.tw lo))[i]? = some (l[i].tw lo) := aK hlt
  have hrl : (nR eS (l.take i) ps).length = i := by rw [oO _ (by rw [List.length_take]; omega), List.length_take]; omega
  have hbi := hb.2 _ (List.getElem_mem hlt)
  generalize l[i] = x at hrs hos hra hbi
  rw [show x.tw lo = [.str x.name, .int .i64 x.parent, .sl lo 1 (cg x.fields)] from rfl] at hra
  have hsl := bJ x.fields
  have hf := hbi.2.1
  generalize nO fT (l.take i) ps = T at hos |-
  repeat' (first | refine W_ ?_ | (refine ai ?_; intro ss bb) | refine ac ?_ | ((with_reducible apply mN (n := 0)); rfl; rfl; kernel_rfl; kernel_rfl; rfl; kernel_rfl; rfl; rfl; rfl; rfl; intro ss bb) | refine dV ?_ | ((with_reducible apply dX); rfl; rfl; rfl; kernel_rfl; (repeat (first | with_reducible exact mh | with_reducible refine mt ?_)); (first | with_reducible assumption | exact aG _ | exact am _ | exact aF _ | exact List.length_map _ | assumption | rfl); omega; (intro bq; (repeat (first | with_reducible exact Upd.head _ | with_reducible apply Upd.tail))); intro bb) | ((with_reducible apply eG); rfl; rfl; rfl; kernel_rfl; (repeat (first | with_reducible exact mh | with_reducible refine mt ?_)); exact hrl; (first | (show List.length _ = 1; rfl) | (show List.length _ = 2; rfl) | (show List.length _ = 0; rfl) | (show List.length _ = 3; rfl) | (first | with_reducible assumption | exact aG _ | exact am _ | exact aF _ | exact List.length_map _ | assumption | rfl)); omega; exact hrs (_, _); (intro bq; (repeat (first | with_reducible exact Upd.head _ | with_reducible apply Upd.tail))); intro bb))
  rename_i s5 b5 _ bx
  generalize ss = sx
  refine oy (objs' := (sx, bx, .row 1 (cg x.fields)) :: (so, bb, .row 3 (nR eS (l.take (i + 1)) (ps ++ [(sx, bx)]))) :: (T ++ R)) pk_ ?_
  refine ag (i + 1, bb, ps ++ [(sx, bx)]) ⟨by dsimp only; omega, by dsimp only; simp [hps]⟩ (by dsimp only; omega) (.of _ nw_ od_ ?_)
  dsimp only
  rw [hos (sx, bx)]
  exact li _ _ T R
 ·obtain rfl : i = l.length := by omega
  rw [List.take_of_length_le (Nat.le_refl _)]
  repeat' refine W_ ?_
  exact aw x_ rfl ((so, bo), ps) hps rfl (.cons _ _ _ _ (.app _ R)) (.refl _) (.tmp _ _ rfl) rfl
end
theorem r9 {α β γ : Type} {f : α -> β -> γ} {l : List α} {ps : List β} {z : γ} (h : z ∈ List.zipWith f l ps) : ∃ x p, f x p = z /\ ∀ {δ : Type} (g : α -> β -> δ), g x p ∈ List.zipWith g l ps := by
 induction l generalizing ps with
 | nil => simp at h
 | cons a l ih =>
   cases ps with
   | nil => simp at h
   | cons q ps =>
     rw [List.zipWith_cons_cons, List.mem_cons] at h
     rcases h with rfl | h
     ·exact ⟨a, q, rfl, fun g => by rw [List.zipWith_cons_cons]; exact List.mem_cons_self⟩
     ·obtain ⟨x, p, h1, h2⟩ := ih h
      exact ⟨x, p, h1, fun g => by rw [List.zipWith_cons_cons]; exact List.mem_cons_of_mem _ (h2 g)⟩
theorem iC {α : Type} {mk : α -> Nat × Nat -> List TV} {ob : α -> ba} {m s b n : Nat} (hmk : ∀ x p objs, (p.1, p.2, ob x) ∈ objs -> ∀ t ∈ mk x p, dS objs t) (hob : ∀ x objs, cB objs (ob x)) (l : List α) (ps : List (Nat × Nat)) :
   (∀ s' b' o, (s', b', o) ∈ (s, b, ba.row m (nR mk l ps)) :: nO ob l ps -> cB ((s, b, ba.row m (nR mk l ps)) :: nO ob l ps) o) /\ dS ((s, b, ba.row m (nR mk l ps)) :: nO ob l ps) (.ms s b 0 n) := by
 refine ⟨fun s' b' o h => ?_, .ms _ _ _ _ _ _ List.mem_cons_self⟩
 rcases List.mem_cons.1 h with h | h
 ·simp only [Prod.mk.injEq] at h
  obtain ⟨_, _, rfl⟩ := h
  intro t ht
  obtain ⟨r, hr, htr⟩ := List.mem_flatten.1 ht
  obtain ⟨x, p, rfl, hg⟩ := r9 hr
  exact hmk x p _ (List.mem_cons_of_mem _ (hg fun x p => (p.1, p.2, ob x))) t htr
 ·obtain ⟨x, p, he, _⟩ := r9 h
  simp only [Prod.mk.injEq] at he
  obtain ⟨_, _, rfl⟩ := he
  exact hob x _
theorem hY (x : aa) (p : Nat × Nat) (objs : aI) (h : (p.1, p.2, fT x) ∈ objs) : ∀ t ∈ eS x p, dS objs t := fun t ht => by
 simp only [eS, List.mem_cons, List.not_mem_nil, or_false] at ht
 rcases ht with rfl | rfl | rfl
 ·exact .flat _ rfl
 ·exact .flat _ rfl
 ·exact .ms _ _ _ _ _ _ h
theorem gX (x : aa) (objs : aI) : cB objs (fT x) := fo (tY _)
theorem yn (a b z : Nat × Nat × ba) (T R : aI) : cC (a :: b :: ((T ++ [z]) ++ R)) (z :: a :: b :: (T ++ R)) := .perm (by
 have h : ((T ++ [z]) ++ R).Perm (z :: (T ++ R)) := by
   rw [List.append_assoc]
   exact List.perm_middle
 exact ((h.cons b).cons a).trans (((List.Perm.swap z b _).cons a).trans (List.Perm.swap z a _)))
theorem adW (a e z2 z3 : Nat × Nat × ba) (C A R : aI) : cC (z2 :: z3 :: a :: (A ++ (e :: (C ++ R)))) (z3 :: a :: (A ++ (e :: (C ++ (z2 :: R))))) := .perm (by
 have h : ((z3 :: a :: A) ++ (e :: C) ++ z2 :: R).Perm (z2 :: ((z3 :: a :: A) ++ (e :: C) ++ R)) := List.perm_middle
 simpa using h.symm)
theorem vx (a e : Nat × Nat × ba) (C A R : aI) : ((C ++ ((a :: A) ++ [e])) ++ R).Perm (a :: (A ++ (e :: (C ++ R)))) := by
 rw [List.append_assoc, List.append_assoc]
 refine (List.perm_append_comm_assoc C (a :: A) ([e] ++ R)).trans ?_
 exact List.Perm.append_left (a :: A) (List.perm_append_comm_assoc C [e] R)
section
variable {G : World -> Prop}
theorem mR (hst : ay G) (lo : Nat) (x : aB) (hb : x.small 1048576) : CtM Tryz.prog G 140 [.agg (x.tw lo)] [] (cbI x) (cbO x) (fun y => .agg (cbC x y)) := by
 refine aA Tryz.func140 rfl Tryz.ntmps140 rfl rfl rfl fun w0 R gs objsR hG hR => ?_
 obtain rfl := hR.inv0
 clear hR
 have c1 := iR hst lo x.classes hb.1
 have n1 := fun (y : (Nat × Nat) × List (Nat × Nat)) (_ : y.2.length = x.classes.length) => iC (m := 3) (s := y.1.1) (b := y.1.2) (n := x.classes.length) hY gX x.classes y.2
 have hel := ar.len lo x.entries
 have he1 := hb.2.2.1
 unfold aB.tw
 repeat' (first | refine W_ ?_ | refine aL ?_ | (refine ai ?_; intro ss bb) | ((with_reducible apply fJ (id := 1) 11); kernel_rfl; kernel_rfl; kernel_rfl; rfl; (repeat (first | exact Cut.zero _ | apply Cut.succ))) | ((with_reducible apply m_q); exact ym_; rfl; exact jI) | ((with_reducible apply eO); rfl; (intro p; try dsimp only); (repeat (first | exact TB.nil _ | ((with_reducible apply TB.cons); rfl; rfl; (first | exact .nil _ | exact .put _ _ _ _ _ (.nil _) | exact .skip _ _ _ _ _ (.put _ _ _ _ _ (.nil _)) | exact .skip _ _ _ _ _ (.skip _ _ _ _ _ (.put _ _ _ _ _ (.nil _))) | (repeat (first | exact .nil _ | apply bz.put | apply bz.skip))); kernel_rfl))); rfl; kernel_rfl; kernel_rfl; exact jI) | ((with_reducible apply j1); rfl; rfl; kernel_rfl) | ((with_reducible apply tU); (intro p; rfl); rfl; kernel_rfl; kernel_rfl; rfl; kernel_rfl; rfl; rfl; rfl; rfl) | ((with_reducible apply mD); (intro p; rfl); (intro p; rfl); rfl; kernel_rfl; (intro p; rfl); (first | with_reducible assumption | exact aG _ | exact am _ | exact aF _ | exact List.length_map _ | assumption | rfl); omega; exact ⟨by decide, ah_⟩; rfl; (focus (simp; done))) | ((with_reducible apply jY hG hst c1); rfl; kernel_rfl; (intro p; (repeat (first | exact bI.nil | ((with_reducible apply bI.cons); rfl; exact .same _)))); exact n1) | (with_reducible refine DM.nil _ _ _ ?_))
 generalize ss = s2; generalize bb = b2
 intro p hp
 simp only [List.forall_mem_cons] at hp
 obtain ⟨_, _, _, hI, _⟩ := hp
 refine fu (objs' := ((p 10).a, (p 10).b, .box [.nils, .nils, .nils, .int .i64 0]) :: ((p 3).a, (p 6).b, .row 4 (x.entries.map (ar.tw lo))) :: (qe x.classes (Enc.dec (p 2)) ++ ((s2, b2, .box [.nils, .nils, .nils, .int .i64 0]) :: R))) (by rw [show hH _ = [_, _, _] from rfl]; simp only [List.flatMap_cons, List.flatMap_nil, List.append_nil, List.cons_append, List.nil_append]; rfl) ?_
 dsimp only [Nat.reduceAdd] at hI |-
 generalize (Enc.dec (p 2) : (Nat × Nat) × List (Nat × Nat)) = yc at hI |-
 generalize Yu.a (p 10) = s3
 generalize Yu.b (p 10) = b3
 generalize Yu.a (p 3) = se
 generalize Yu.b (p 6) = be
 have hcl := az.len lo x.codes
 have hc1 := hb.2.1.1
 have hsm := hb.2.1.2
 repeat' (first | refine W_ ?_ | refine ac ?_)
 refine oL 1 4 (by decide) rfl fun sc => ?_
 obtain ⟨RR, hRR⟩ : ∃ RR : aI, RR = ((se, be, .row 4 (x.entries.map (ar.tw 0))) :: (qe x.classes yc ++ ((s2, b2, ba.box [.nils, .nils, .nils, .int .i64 0]) :: R))) := ⟨_, rfl⟩
 refine dg (objs' := (s3, b3, .box [.ms yc.1.1 yc.1.2 0 x.classes.length, .ms sc 0 0 0, .ms se be 0 x.entries.length, .int .i64 x.main]) :: (sc, 0, .row 4 []) :: RR) (by rw [hRR]; exact .refl _) ?_
 apply aj (X := Nat × Nat × List (Nat × Nat)) [2, 3, 17, 18, 1000000] (fun y => [(19, .int .i64 (y.1 : Int))])
   (fun y => (s3, b3, .box [.ms yc.1.1 yc.1.2 0 x.classes.length, .ms sc y.2.1 0 y.1, .ms se be 0 x.entries.length, .int .i64 x.main]) :: (sc, y.2.1, .row 4 (nR ey (x.codes.take y.1) y.2.2)) :: (nO fx (x.codes.take y.1) y.2.2 ++ RR))
   (fun y => y.1 <= x.codes.length /\ y.2.2.length = y.1) (fun y => x.codes.length - y.1) (0, 0, []) ⟨Nat.zero_le _, rfl⟩
 exact kp_; exact nw_
 ·exact .refl _
 rintro ⟨i, bc, ps⟩ ⟨hi, hps⟩
 dsimp only at hi hps |-
 by_cases hlt : i < x.codes.length
 ·have hrs := fun p => sa ey hlt hps p
  have hos := fun p => lS fx hlt hps p
  have hra : (x.codes.map (az.tw lo))[i]? = some (x.codes[i].tw lo) := aK hlt
  have hrl : (nR ey (x.codes.take i) ps).length = i := by rw [oO _ (by rw [List.length_take]; omega), List.length_take]; omega
  have hbi := hsm _ (List.getElem_mem hlt)
  generalize x.codes[i] = c at hrs hos hra hbi
  have hil : c.instrs.length <= 1048576 := hbi.1
  rw [show c.tw lo = [.bool c.block, .int .i64 c.params, .int .i64 c.slots, .sl lo 4 (c.instrs.map (ah.tw lo))] from rfl] at hra
  generalize nO fx (x.codes.take i) ps = T at hos |-
  repeat' (first | refine W_ ?_ | (refine ai ?_; intro ss bb) | refine ac ?_ | ((with_reducible apply mN (n := 0)); rfl; rfl; kernel_rfl; kernel_rfl; rfl; kernel_rfl; rfl; rfl; rfl; rfl; intro ss bb) | refine dV ?_ | ((with_reducible apply dX); rfl; rfl; rfl; kernel_rfl; (repeat (first | with_reducible exact mh | with_reducible refine mt ?_)); (first | with_reducible assumption | exact aG _ | exact am _ | exact aF _ | exact List.length_map _ | assumption | rfl); omega; (intro bq; (repeat (first | with_reducible exact Upd.head _ | with_reducible apply Upd.tail))); intro bb) | ((with_reducible apply eG); rfl; rfl; rfl; kernel_rfl; (repeat (first | with_reducible exact mh | with_reducible refine mt ?_)); exact hrl; (first | (show List.length _ = 1; rfl) | (show List.length _ = 2; rfl) | (show List.length _ = 0; rfl) | (show List.length _ = 3; rfl) | (first | with_reducible assumption | exact aG _ | exact am _ | exact aF _ | exact List.length_map _ | assumption | rfl)); omega; exact hrs (_, _); (intro bq; (repeat (first | with_reducible exact Upd.head _ | with_reducible apply Upd.tail))); intro bb))
  rename_i s5 b5 _ bx
  generalize ss = sx
  refine oy (objs' := (sx, bx, .row 4 (c.instrs.map (ah.tw 0))) :: (s3, b3, .box [.ms yc.1.1 yc.1.2 0 x.classes.length, .ms sc bb 0 (i + 1), .ms se be 0 x.entries.length, .int .i64 x.main]) :: (sc, bb, .row 4 (nR ey (x.codes.take (i + 1)) (ps ++ [(sx, bx)]))) :: (T ++ RR)) pk_ ?_
  refine ag (i + 1, bb, ps ++ [(sx, bx)]) ⟨by dsimp only; omega, by dsimp only; simp [hps]⟩ (by dsimp only; omega) (.of _ nw_ od_ ?_)
  dsimp only
  rw [hos (sx, bx)]
  exact yn _ _ _ T RR
 ·obtain rfl : i = x.codes.length := by omega
  rw [List.take_of_length_le (Nat.le_refl _), hRR]
  refine dg (adW _ _ _ _ _ _ _) ?_
  repeat' (first | refine W_ ?_ | refine ac ?_)
  exact aw (t1 := .agg [.ms yc.1.1 yc.1.2 0 x.classes.length, .ms sc bc 0 x.codes.length, .ms se be 0 x.entries.length, .int .i64 x.main]) x_ rfl (yc, ((sc, bc), ps), (se, be)) ⟨hI, hps⟩ rfl (.app _ R) (.drop (.drop (.perm (vx _ _ _ _ R)))) (.cell _ _ _ _ _ rfl mm_ (by kernel_rfl) (by kernel_rfl) (by kernel_rfl)) rfl
end
section
variable {G : World -> Prop}
theorem gD (_hst : ay G) (lo : Nat) (l : List aa) (hb : l.length <= 1048576 /\ ∀ y ∈ l, aa.small 1048576 y) : CtM Tryz.prog G 130 [.sl lo 3 (l.map (aa.tw lo))] [] (fun y : (Nat × Nat) × List (Nat × Nat) => y.2.length = l.length) (fun y => (y.1.1, y.1.2, .row 3 (nR eS l y.2)) :: nO fT l y.2) (fun y => .ms y.1.1 y.1.2 0 l.length) := by
 refine aA Tryz.func130 rfl Tryz.ntmps130 rfl rfl rfl fun w0 R gs objsR hG hR => ?_
 obtain rfl := hR.inv0
 clear hR
 have hlen := aa.len lo l
 have hl1 := hb.1
 repeat' (first | refine W_ ?_ | (refine kE ?_; intro ss bb))
 generalize ss = so; generalize bb = bo
 apply aj (X := Nat × Nat × List (Nat × Nat)) [0, 1000000] (fun x => [(4, .int .i64 (x.1 : Int)), (3, .ms so x.2.1 0 x.1)]) (fun x => (so, x.2.1, .row 3 (nR eS (l.take x.1) x.2.2)) :: (nO fT (l.take x.1) x.2.2 ++ R)) (fun x => x.1 <= l.length /\ x.2.2.length = x.1) (fun x => l.length - x.1) (0, bo, []) ⟨Nat.zero_le _, rfl⟩
 exact kp_; exact nw_
 ·exact .refl _
 rintro ⟨i, bo, ps⟩ ⟨hi, hps⟩
 dsimp only at hi hps |-
 by_cases hlt : i < l.length
 ·have hrs := fun p => sa eS hlt hps p
  have hos := fun p => lS fT hlt hps p
  have hra : (l.map (aa.tw lo))[i]? = some (l[i].tw lo) := aK hlt
  have hrl : (nR eS (l.take i) ps).length = i := by rw [oO _ (by rw [List.length_take]; omega), List.length_take]; omega
  have hbi := hb.2 _ (List.getElem_mem hlt)
  generalize l[i] = x at hrs hos hra hbi
  rw [show x.tw lo = [.str x.name, .int .i64 x.parent, .sl lo 1 (cg x.fields)] from rfl] at hra
  have hsl := bJ x.fields
  have hf := hbi.2.1
  generalize nO fT (l.take i) ps = T at hos |-
  repeat' (first | refine W_ ?_ | ((with_reducible apply fJ (id := 5) 20); kernel_rfl; kernel_rfl; kernel_rfl; rfl; (repeat (first | exact Cut.zero _ | apply Cut.succ))) | ((with_reducible apply m_q); exact ym_; rfl; exact jI) | ((with_reducible apply eO); rfl; (intro p; try dsimp only); (repeat (first | exact TB.nil _ | ((with_reducible apply TB.cons); rfl; rfl; (first | exact .nil _ | exact .put _ _ _ _ _ (.nil _) | exact .skip _ _ _ _ _ (.put _ _ _ _ _ (.nil _)) | exact .skip _ _ _ _ _ (.skip _ _ _ _ _ (.put _ _ _ _ _ (.nil _))) | (repeat (first | exact .nil _ | apply bz.put | apply bz.skip))); kernel_rfl))); rfl; kernel_rfl; kernel_rfl; exact jI) | ((with_reducible apply mD); (intro p; rfl); (intro p; rfl); rfl; kernel_rfl; (intro p; rfl); (first | with_reducible assumption | exact aG _ | exact am _ | exact aF _ | exact List.length_map _ | assumption | rfl); omega; exact ⟨by decide, ah_⟩; rfl; (focus (simp; done))) | ((with_reducible apply tU (n := 0)); (intro p; rfl); rfl; kernel_rfl; kernel_rfl; rfl; kernel_rfl; rfl; rfl; rfl; rfl) | ((with_reducible apply pY); (intro p; rfl); rfl; kernel_rfl; kernel_rfl; rfl; kernel_rfl; rfl; (intro p; rfl); rfl; (intro p; rfl); exact jI) | (with_reducible refine DM.nil _ _ _ ?_))
  intro p hp
  refine fu (objs' := ((p 11).a, (p 17).b, .row 1 (cg x.fields)) :: (so, bo, .row 3 (nR eS (l.take i) ps)) :: (T ++ R)) (by rw [show hH _ = [_] from rfl]; simp only [List.flatMap_cons, List.flatMap_nil, List.append_nil, List.cons_append, List.nil_append]; (try rfl)) ?_
  dsimp only [Nat.reduceAdd]
  generalize Yu.a (p 11) = sx
  generalize Yu.b (p 17) = bx
  repeat' (first | refine W_ ?_ | ((with_reducible apply eG); rfl; rfl; rfl; kernel_rfl; (repeat (first | with_reducible exact mh | with_reducible refine mt ?_)); exact hrl; (first | (show List.length _ = 1; rfl) | (show List.length _ = 2; rfl) | (show List.length _ = 0; rfl) | (show List.length _ = 3; rfl) | (first | with_reducible assumption | exact aG _ | exact am _ | exact aF _ | exact List.length_map _ | assumption | rfl)); omega; exact hrs (_, _); (intro bq; (repeat (first | with_reducible exact Upd.head _ | with_reducible apply Upd.tail))); intro bb))
  refine ag (i + 1, bb, ps ++ [(sx, bx)]) ⟨by dsimp only; omega, by dsimp only; simp [hps]⟩ (by dsimp only; omega) (.of _ nw_ od_ ?_)
  dsimp only
  rw [hos (sx, bx)]
  exact li _ _ T R
 ·obtain rfl : i = l.length := by omega
  rw [List.take_of_length_le (Nat.le_refl _)]
  repeat' refine W_ ?_
  exact aw x_ rfl ((so, bo), ps) hps rfl (.cons _ _ _ _ (.app _ R)) (.refl _) (.tmp _ _ rfl) rfl
theorem wg (_hst : ay G) (lo : Nat) (x : az) (hb : x.small 1048576) : CtM Tryz.prog G 207 [.agg [.bool x.block, .int .i64 x.params, .int .i64 x.slots, .sl lo 4 (x.instrs.map (ah.tw lo))]] [] (fun _ : Nat × Nat => True) (fun y => [(y.1, y.2, fx x)]) (fun y => .agg (ey x y)) := by
 refine aA Tryz.func207 rfl Tryz.ntmps207 rfl rfl rfl fun w0 R gs objsR hG hR => ?_
 obtain rfl := hR.inv0
 clear hR
 have hil : x.instrs.length <= 1048576 := hb.1
 repeat' (first | refine W_ ?_ | refine aL ?_ | (refine ai ?_; intro ss bb) | ((with_reducible apply fJ (id := 1) 11); kernel_rfl; kernel_rfl; kernel_rfl; rfl; (repeat (first | exact Cut.zero _ | apply Cut.succ))) | ((with_reducible apply m_q); exact ym_; rfl; exact jI) | ((with_reducible apply eO); rfl; (intro p; try dsimp only); (repeat (first | exact TB.nil _ | ((with_reducible apply TB.cons); rfl; rfl; (first | exact .nil _ | exact .put _ _ _ _ _ (.nil _) | exact .skip _ _ _ _ _ (.put _ _ _ _ _ (.nil _)) | exact .skip _ _ _ _ _ (.skip _ _ _ _ _ (.put _ _ _ _ _ (.nil _))) | (repeat (first | exact .nil _ | apply bz.put | apply bz.skip))); kernel_rfl))); rfl; kernel_rfl; kernel_rfl; exact jI) | ((with_reducible apply tU); (intro p; rfl); rfl; kernel_rfl; kernel_rfl; rfl; kernel_rfl; rfl; rfl; rfl; rfl) | ((with_reducible apply mD); (intro p; rfl); (intro p; rfl); rfl; kernel_rfl; (intro p; rfl); (first | with_reducible assumption | exact aG _ | exact am _ | exact aF _ | exact List.length_map _ | assumption | rfl); omega; exact ⟨by decide, ah_⟩; rfl; (focus (simp; done))) | (with_reducible refine DM.nil _ _ _ ?_))
 generalize ss = s2; generalize bb = b2
 intro p hp
 refine fu (objs' := ((p 6).a, (p 9).b, .row 4 (x.instrs.map (ah.tw 0))) :: (s2, b2, .box [.bool false, .int .i64 0, .int .i64 0, .nils]) :: R) (by rw [show hH _ = [_] from rfl]; simp only [List.flatMap_cons, List.flatMap_nil, List.append_nil, List.cons_append, List.nil_append]; (try rfl)) ?_
 dsimp only [Nat.reduceAdd]
 generalize Yu.a (p 6) = sx
 generalize Yu.b (p 9) = bx
 repeat' (first | refine W_ ?_ | refine ac ?_)
 exact aw (t1 := .agg [.bool x.block, .int .i64 x.params, .int .i64 x.slots, .ms sx bx 0 x.instrs.length]) x_ rfl (sx, bx) trivial rfl (.cons _ _ _ _ (.nil R)) pk_ (.cell _ _ _ _ _ rfl mm_ (by kernel_rfl) (by kernel_rfl) (by kernel_rfl)) rfl
end
theorem aaF (x : az) (y : Nat × Nat) : (∀ s b o, (s, b, o) ∈ [(y.1, y.2, fx x)] -> cB [(y.1, y.2, fx x)] o) /\ dS [(y.1, y.2, fx x)] (.agg (ey x y)) := by
 refine ⟨fun s b o h => ?_, .agg _ fun t ht => ?_⟩
 ·simp only [List.mem_singleton, Prod.mk.injEq] at h
  obtain ⟨_, _, rfl⟩ := h
  refine fo fun t ht => ?_
  obtain ⟨r, hr, htr⟩ := List.mem_flatten.1 ht
  obtain ⟨i, _, rfl⟩ := List.mem_map.1 hr
  simp only [ah.tw, List.mem_cons, List.not_mem_nil, or_false] at htr
  rcases htr with rfl | rfl | rfl | rfl <;> rfl
 ·simp only [ey, List.mem_cons, List.not_mem_nil, or_false] at ht
  rcases ht with rfl | rfl | rfl | rfl
  ·exact .flat _ rfl
  ·exact .flat _ rfl
  ·exact .flat _ rfl
  ·exact .ms _ _ _ _ _ _ List.mem_cons_self
theorem yB (a b z : Nat × Nat × ba) (T R : aI) : cC (a :: b :: ((T ++ [z]) ++ R)) (a :: z :: b :: (T ++ R)) := .perm (by
 have h : ((T ++ [z]) ++ R).Perm (z :: (T ++ R)) := by
   rw [List.append_assoc]
   exact List.perm_middle
 exact (((h.cons b).trans (List.Perm.swap z b _)).cons a))
theorem abM (a e z2 z3 : Nat × Nat × ba) (C A R : aI) : cC (z2 :: z3 :: a :: (A ++ (e :: (C ++ R)))) (a :: z3 :: (A ++ (e :: (C ++ (z2 :: R))))) := .perm (by
 have h : ((z3 :: a :: A) ++ (e :: C) ++ z2 :: R).Perm (z2 :: ((z3 :: a :: A) ++ (e :: C) ++ R)) := List.perm_middle
 exact .trans (by simpa using h.symm) (List.Perm.swap a z3 _))
section
variable {G : World -> Prop}
theorem vJ (hst : ay G) (f lo : Nat) (x : aB) (hb : x.small 1048576) : CtM Tryz.prog G 129 [.cp f (x.tw lo)] [] (cbI x) (cbO x) (fun y => .agg (cbC x y)) := by
 refine aA Tryz.func129 rfl Tryz.ntmps129 rfl rfl rfl fun w0 R gs objsR hG hR => ?_
 obtain rfl := hR.inv0
 clear hR
 have c1 := gD hst lo x.classes hb.1
 have n1 := fun (y : (Nat × Nat) × List (Nat × Nat)) (_ : y.2.length = x.classes.length) => iC (m := 3) (s := y.1.1) (b := y.1.2) (n := x.classes.length) hY gX x.classes y.2
 have hel := ar.len lo x.entries
 have he1 := hb.2.2.1
 unfold aB.tw
 repeat' (first | refine W_ ?_ | (refine ai ?_; intro ss bb) | ((with_reducible apply fJ (id := 1) 17); kernel_rfl; kernel_rfl; kernel_rfl; rfl; (repeat (first | exact Cut.zero _ | apply Cut.succ))) | ((with_reducible apply m_q); exact ym_; rfl; exact jI) | ((with_reducible apply eO); rfl; (intro p; try dsimp only); (repeat (first | exact TB.nil _ | ((with_reducible apply TB.cons); rfl; rfl; (first | exact .nil _ | exact .put _ _ _ _ _ (.nil _) | exact .skip _ _ _ _ _ (.put _ _ _ _ _ (.nil _)) | exact .skip _ _ _ _ _ (.skip _ _ _ _ _ (.put _ _ _ _ _ (.nil _))) | (repeat (first | exact .nil _ | apply bz.put | apply bz.skip))); kernel_rfl))); rfl; kernel_rfl; kernel_rfl; exact jI) | ((with_reducible apply j1); rfl; rfl; kernel_rfl) | ((with_reducible apply tU); (intro p; rfl); rfl; kernel_rfl; kernel_rfl; rfl; kernel_rfl; rfl; rfl; rfl; rfl) | ((with_reducible apply mD); (intro p; rfl); (intro p; rfl); rfl; kernel_rfl; (intro p; rfl); (first | with_reducible assumption | exact aG _ | exact am _ | exact aF _ | exact List.length_map _ | assumption | rfl); omega; exact ⟨by decide, ah_⟩; rfl; (focus (simp; done))) | ((with_reducible apply jY hG hst c1); rfl; kernel_rfl; (intro p; (repeat (first | exact bI.nil | ((with_reducible apply bI.cons); rfl; exact .same _)))); exact n1) | (with_reducible refine DM.nil _ _ _ ?_))
 generalize ss = s2; generalize bb = b2
 intro p hp
 simp only [List.forall_mem_cons] at hp
 obtain ⟨_, _, _, hI, _⟩ := hp
 refine fu (objs' := ((p 16).a, (p 16).b, .box [.nils, .nils, .nils, .int .i64 0]) :: ((p 5).a, (p 10).b, .row 4 (x.entries.map (ar.tw lo))) :: (qe x.classes (Enc.dec (p 4)) ++ ((s2, b2, .box [.nils, .nils, .nils, .int .i64 0]) :: R))) (by rw [show hH _ = [_, _, _] from rfl]; simp only [List.flatMap_cons, List.flatMap_nil, List.append_nil, List.cons_append, List.nil_append]; (try rfl)) ?_
 dsimp only [Nat.reduceAdd] at hI |-
 generalize (Enc.dec (p 4) : (Nat × Nat) × List (Nat × Nat)) = yc at hI |-
 generalize Yu.a (p 16) = s3
 generalize Yu.b (p 16) = b3
 generalize Yu.a (p 5) = se
 generalize Yu.b (p 10) = be
 have hcl := az.len lo x.codes
 have hc1 := hb.2.1.1
 have hsm := hb.2.1.2
 repeat' (first | refine W_ ?_ | refine ac ?_)
 refine oL 1 4 (by decide) rfl fun sc => ?_
 obtain ⟨RR, hRR⟩ : ∃ RR : aI, RR = ((se, be, .row 4 (x.entries.map (ar.tw 0))) :: (qe x.classes yc ++ ((s2, b2, ba.box [.nils, .nils, .nils, .int .i64 0]) :: R))) := ⟨_, rfl⟩
 refine dg (objs' := (sc, 0, .row 4 []) :: (s3, b3, .box [.ms yc.1.1 yc.1.2 0 x.classes.length, .ms sc 0 0 0, .ms se be 0 x.entries.length, .int .i64 x.main]) :: RR) (by rw [hRR]; exact pk_) ?_
 apply aj (X := Nat × Nat × List (Nat × Nat)) [0, 2, 3, 1000000] (fun y => [(4, .int .i64 (y.1 : Int))])
   (fun y => (sc, y.2.1, .row 4 (nR ey (x.codes.take y.1) y.2.2)) :: (s3, b3, .box [.ms yc.1.1 yc.1.2 0 x.classes.length, .ms sc y.2.1 0 y.1, .ms se be 0 x.entries.length, .int .i64 x.main]) :: (nO fx (x.codes.take y.1) y.2.2 ++ RR))
   (fun y => y.1 <= x.codes.length /\ y.2.2.length = y.1) (fun y => x.codes.length - y.1) (0, 0, []) ⟨Nat.zero_le _, rfl⟩
 exact kp_; exact nw_
 ·exact .refl _
 rintro ⟨i, bc, ps⟩ ⟨hi, hps⟩
 dsimp only at hi hps |-
 by_cases hlt : i < x.codes.length
 ·have hrs := fun p => sa ey hlt hps p
  have hos := fun p => lS fx hlt hps p
  have hra : (x.codes.map (az.tw lo))[i]? = some (x.codes[i].tw lo) := aK hlt
  have hrl : (nR ey (x.codes.take i) ps).length = i := by rw [oO _ (by rw [List.length_take]; omega), List.length_take]; omega
  have hbi := hsm _ (List.getElem_mem hlt)
  generalize x.codes[i] = c at hrs hos hra hbi
  have hil : c.instrs.length <= 1048576 := hbi.1
  rw [show c.tw lo = [.bool c.block, .int .i64 c.params, .int .i64 c.slots, .sl lo 4 (c.instrs.map (ah.tw lo))] from rfl] at hra
  have c2 := wg hst lo c hbi
  have n2 := fun (y : Nat × Nat) (_ : True) => aaF c y
  generalize nO fx (x.codes.take i) ps = T at hos |-
  repeat' (first | refine W_ ?_ | ((with_reducible apply kU (id := 5) 13); kernel_rfl; kernel_rfl; kernel_rfl; rfl; (repeat (first | exact Cut.zero _ | apply Cut.succ))) | ((with_reducible apply m_q); exact ym_; rfl; exact jI) | ((with_reducible apply eO); rfl; (intro p; try dsimp only); (repeat (first | exact TB.nil _ | ((with_reducible apply TB.cons); rfl; rfl; (first | exact .nil _ | exact .put _ _ _ _ _ (.nil _) | exact .skip _ _ _ _ _ (.put _ _ _ _ _ (.nil _)) | exact .skip _ _ _ _ _ (.skip _ _ _ _ _ (.put _ _ _ _ _ (.nil _))) | (repeat (first | exact .nil _ | apply bz.put | apply bz.skip))); kernel_rfl))); rfl; kernel_rfl; kernel_rfl; exact jI) | ((with_reducible apply pY); (intro p; rfl); rfl; kernel_rfl; kernel_rfl; rfl; kernel_rfl; rfl; (intro p; rfl); rfl; (intro p; rfl); exact jI) | ((with_reducible apply jY hG hst c2); rfl; kernel_rfl; (intro p; (repeat (first | exact bI.nil | ((with_reducible apply bI.cons); rfl; exact .same _)))); exact n2) | ((with_reducible apply uI); (intro p; rfl); (intro p; rfl); rfl; kernel_rfl; (intro p; rfl); exact hrl; (intro p; show List.length _ = 1; rfl); omega; exact fun p => hrs (Enc.dec (p _)); exact ⟨by decide, by decide⟩; exact zD; rfl; (focus (simp; done))) | (with_reducible refine DM.nil _ _ _ ?_))
  intro p hp
  refine fu (objs' := (sc, (p 11).b, .row 4 (nR ey (x.codes.take (i + 1)) (ps ++ [Enc.dec (p 9)]))) :: ((Enc.dec (p 9) : Nat × Nat).1, (Enc.dec (p 9) : Nat × Nat).2, fx c) :: (s3, b3, .box [.ms yc.1.1 yc.1.2 0 x.classes.length, .ms sc bc 0 i, .ms se be 0 x.entries.length, .int .i64 x.main]) :: (T ++ RR)) (by rw [show hH _ = [_, _] from rfl]; (try simp only [List.flatMap_cons, List.flatMap_nil, List.append_nil, List.cons_append, List.nil_append]); (try rfl)) ?_
  dsimp only [Nat.reduceAdd] at hp |-
  generalize (Enc.dec (p 9) : Nat × Nat) = q
  generalize Yu.b (p 11) = bb
  repeat' (first | refine W_ ?_ | refine ac ?_)
  refine ag (i + 1, bb, ps ++ [q]) ⟨by dsimp only; omega, by dsimp only; simp [hps]⟩ (by dsimp only; omega) (.of _ nw_ od_ ?_)
  dsimp only
  rw [hos q]
  exact yB _ _ _ T RR
 ·obtain rfl : i = x.codes.length := by omega
  rw [List.take_of_length_le (Nat.le_refl _), hRR]
  refine dg (abM _ _ _ _ _ _ _) ?_
  repeat' (first | refine W_ ?_ | refine ac ?_)
  exact aw (t1 := .agg [.ms yc.1.1 yc.1.2 0 x.classes.length, .ms sc bc 0 x.codes.length, .ms se be 0 x.entries.length, .int .i64 x.main]) x_ rfl (yc, ((sc, bc), ps), (se, be)) ⟨hI, hps⟩ rfl (.app _ R) (.drop (.drop (.perm (vx _ _ _ _ R)))) (.cell _ _ _ _ _ rfl mm_ (by kernel_rfl) (by kernel_rfl) (by kernel_rfl)) rfl
end
section
variable {G : World -> Prop}
theorem kQ (hst : ay G) (lo : Nat) (l : List ByteArray) (k : Int) (hn : l.length <= 1048576) (hk : 0 <= k /\ k <= 1000000000000000) : Ct Tryz.prog G 29 [.sl lo 1 (cg (mkL cX bs k l)), .int .i64 k] (fun _ => .int .i64 (kL bs k l)) := by
 refine ap Tryz.func29 rfl Tryz.ntmps29 rfl rfl fun w0 _ hG => ?_
 have hrl : (cg (mkL cX bs k l)).length = l.length := by simp [cg, ch]
 have hget := fun i (h : i < l.length) => fW (mk := cX) (nx := bs) (k := k) h
 have hgr : ∀ i (h : i < l.length), (cg (mkL cX bs k l))[i]? = some [.str (dN (kL bs k (l.take i)))] := fun i h => by
   simp only [cg, List.getElem?_map, hget i h]; rfl
 generalize cg (mkL cX bs k l) = rows at hrl hgr |-
 repeat' refine W_ ?_
 apply aj (X := Nat) [0] (fun x => [(5, .int .i64 (x : Int)), (1, .int .i64 (kL bs k (l.take x)))]) (fun _ => []) (fun x => x <= l.length) (fun x => l.length - x) 0 (Nat.zero_le _)
 exact kp_; exact nw_
 ·exact .refl _
 intro i hi
 try dsimp only
 have hq := aV (k := k) (i := i) hn (eY l) hi
 by_cases hlt : i < l.length
 ·have hrow := hgr i hlt
  have hks : kL bs k (l.take (i + 1)) = kL bs k (l.take i) + 1 := cO hlt
  generalize kL bs k (l.take i) = q at hq hrow hks |-
  have hs0 : ¬ dN (q) ≠ dN (q) := fun h => h rfl
  have hm0 := bS (G := G) (q) (by omega) (by omega)
  repeat' (first | refine V_ ?_ | refine ae hG hst (hm0) ?_)
  all_goals first
    | exact ag (i + 1) (by omega) (by omega) (.of _ (cw.envCons rfl (cw.envCons (dB rfl (by rw [hks])) cw.envNil)) od_ pk_)
    | (exfalso; simp_all; done)
 ·obtain rfl : i = l.length := by omega
  rw [List.take_length]
  repeat' refine W_ ?_
  exact r1_
theorem uo (hst : ay G) (lo : Nat) (l : List ah) (k : Int) (hn : l.length <= 1048576) (hk : 0 <= k /\ k <= 1000000000000000) : Ct Tryz.prog G 226 [.sl lo 4 ((mkL ef bE k l).map (ah.tw lo)), .int .i64 k] (fun _ => .int .i64 (kL bE k l)) := by
 refine ap Tryz.func226 rfl Tryz.ntmps226 rfl rfl fun w0 _ hG => ?_
 have hrl : ((mkL ef bE k l).map (ah.tw lo)).length = l.length := by simp [ch]
 have hget := fun i (h : i < l.length) => fW (mk := ef) (nx := bE) (k := k) h
 have hgr : ∀ i (h : i < l.length), ((mkL ef bE k l).map (ah.tw lo))[i]? = some [.int .i64 (kL bE k (l.take i)), .int .i64 (kL bE k (l.take i) + 1), .int .i64 (kL bE k (l.take i) + 1 + 1), .str (dN (kL bE k (l.take i) + 1 + 1 + 1))] := fun i h => by
   simp only [List.getElem?_map, hget i h]; rfl
 generalize (mkL ef bE k l).map (ah.tw lo) = rows at hrl hgr |-
 repeat' refine W_ ?_
 apply aj (X := Nat) [0] (fun x => [(5, .int .i64 (x : Int)), (1, .int .i64 (kL bE k (l.take x)))]) (fun _ => []) (fun x => x <= l.length) (fun x => l.length - x) 0 (Nat.zero_le _)
 exact kp_; exact nw_
 ·exact .refl _
 intro i hi
 try dsimp only
 have hq := aV (k := k) (i := i) hn (jz l) hi
 by_cases hlt : i < l.length
 ·have hrow := hgr i hlt
  have hks : kL bE k (l.take (i + 1)) = kL bE k (l.take i) + 1 + 1 + 1 + 1 := cO hlt
  generalize kL bE k (l.take i) = q at hq hrow hks |-
  have hi0 : ¬ (q) ≠ (q) := fun h => h rfl
  have hi1 : ¬ (q + 1) ≠ (q + 1) := fun h => h rfl
  have hi2 : ¬ (q + 1 + 1) ≠ (q + 1 + 1) := fun h => h rfl
  have hs3 : ¬ dN (q + 1 + 1 + 1) ≠ dN (q + 1 + 1 + 1) := fun h => h rfl
  have hm3 := bS (G := G) (q + 1 + 1 + 1) (by omega) (by omega)
  repeat' (first | refine V_ ?_ | refine ae hG hst (hm3) ?_)
  all_goals first
    | exact ag (i + 1) (by omega) (by omega) (.of _ (cw.envCons rfl (cw.envCons (dB rfl (by rw [hks])) cw.envNil)) od_ pk_)
    | (exfalso; simp_all; done)
 ·obtain rfl : i = l.length := by omega
  rw [List.take_length]
  repeat' refine W_ ?_
  exact r1_
theorem ta (hst : ay G) (lo : Nat) (l : List ar) (k : Int) (hn : l.length <= 1048576) (hk : 0 <= k /\ k <= 1000000000000000) : Ct Tryz.prog G 154 [.sl lo 4 ((mkL ex bM k l).map (ar.tw lo)), .int .i64 k] (fun _ => .int .i64 (kL bM k l)) := by
 refine ap Tryz.func154 rfl Tryz.ntmps154 rfl rfl fun w0 _ hG => ?_
 have hrl : ((mkL ex bM k l).map (ar.tw lo)).length = l.length := by simp [ch]
 have hget := fun i (h : i < l.length) => fW (mk := ex) (nx := bM) (k := k) h
 have hgr : ∀ i (h : i < l.length), ((mkL ex bM k l).map (ar.tw lo))[i]? = some [.int .i64 (kL bM k (l.take i)), .bool (decide ((kL bM k (l.take i) + 1).tmod 3 = 0)), .str (dN (kL bM k (l.take i) + 1 + 1)), .int .i64 (kL bM k (l.take i) + 1 + 1 + 1)] := fun i h => by
   simp only [List.getElem?_map, hget i h]; rfl
 generalize (mkL ex bM k l).map (ar.tw lo) = rows at hrl hgr |-
 repeat' refine W_ ?_
 apply aj (X := Nat) [0] (fun x => [(5, .int .i64 (x : Int)), (1, .int .i64 (kL bM k (l.take x)))]) (fun _ => []) (fun x => x <= l.length) (fun x => l.length - x) 0 (Nat.zero_le _)
 exact kp_; exact nw_
 ·exact .refl _
 intro i hi
 try dsimp only
 have hq := aV (k := k) (i := i) hn (jA l) hi
 by_cases hlt : i < l.length
 ·have hrow := hgr i hlt
  have hks : kL bM k (l.take (i + 1)) = kL bM k (l.take i) + 1 + 1 + 1 + 1 := cO hlt
  generalize kL bM k (l.take i) = q at hq hrow hks |-
  have hi0 : ¬ (q) ≠ (q) := fun h => h rfl
  have hb1 : (decide ((q + 1).tmod 3 = 0) != decide ((q + 1).tmod 3 = 0)) = false := by simp
  have hs2 : ¬ dN (q + 1 + 1) ≠ dN (q + 1 + 1) := fun h => h rfl
  have hm2 := bS (G := G) (q + 1 + 1) (by omega) (by omega)
  have hi3 : ¬ (q + 1 + 1 + 1) ≠ (q + 1 + 1 + 1) := fun h => h rfl
  repeat' (first | refine V_ ?_ | refine ae hG hst (hm2) ?_ | refine c_ (fun hc => ?_) (fun hc => ?_))
  all_goals first
    | exact ag (i + 1) (by omega) (by omega) (.of _ (cw.envCons rfl (cw.envCons (dB rfl (by rw [hks])) cw.envNil)) od_ pk_)
    | (exfalso; simp_all; done)
 ·obtain rfl : i = l.length := by omega
  rw [List.take_length]
  repeat' refine W_ ?_
  exact r1_
theorem iM (hst : ay G) (lo : Nat) (l : List aa) (k : Int) (hn : l.length <= 1048576 /\ ∀ y ∈ l, aa.small 1048576 y) (hk : 0 <= k /\ k <= 100000000000000) : Ct Tryz.prog G 152 [.sl lo 3 ((mkL aZ aC k l).map (aa.tw lo)), .int .i64 k] (fun _ => .int .i64 (kL aC k l)) := by
 refine ap Tryz.func152 rfl Tryz.ntmps152 rfl rfl fun w0 _ hG => ?_
 obtain ⟨hn, hsm⟩ := hn
 have hrl : ((mkL aZ aC k l).map (aa.tw lo)).length = l.length := by simp [ch]
 have hgr : ∀ i (h : i < l.length), ((mkL aZ aC k l).map (aa.tw lo))[i]? = some ((aZ (kL aC k (l.take i)) l[i]).tw lo) := fun i h => by
   simp only [List.getElem?_map, fW (mk := aZ) (nx := aC) (k := k) h]; rfl
 generalize (mkL aZ aC k l).map (aa.tw lo) = rows at hrl hgr |-
 repeat' refine W_ ?_
 apply aj (X := Nat) [0] (fun x => [(5, .int .i64 (x : Int)), (1, .int .i64 (kL aC k (l.take x)))]) (fun _ => []) (fun x => x <= l.length) (fun x => l.length - x) 0 (Nat.zero_le _)
 exact kp_; exact nw_
 ·exact .refl _
 intro i hi
 try dsimp only
 have hq := aV (k := k) (i := i) hn (cA hsm) hi
 by_cases hlt : i < l.length
 ·have hrow := hgr i hlt
  have hks := cO (nx := aC) (k := k) hlt
  have hb := hsm _ (List.getElem_mem hlt)
  generalize kL aC k (l.take i) = q at hq hrow hks |-
  generalize l[i] = x at hrow hks hb
  replace hrow : rows[i]? = some [.str (dN (q)), .int .i64 (q + 1), .sl lo 1 (cg (mkL cX bs (q + 1 + 1) x.fields))] := hrow
  have hin := kQ hst lo x.fields (q + 1 + 1) hb.2.1 (by omega)
  have hinr := gW (nx := bs) (l := x.fields) (k := q + 1 + 1) (eY _)
  have hks2 : kL aC k (l.take (i + 1)) = kL bs (q + 1 + 1) x.fields := hks
  have hs0 : ¬ dN (q) ≠ dN (q) := fun h => h rfl
  have hm0 := bS (G := G) (q) (by omega) (by omega)
  have hi1 : ¬ (q + 1) ≠ (q + 1) := fun h => h rfl
  repeat' (first | refine V_ ?_ | refine ab hG hst (hin) ?_ | refine ae hG hst (hm0) ?_)
  all_goals first
    | exact ag (i + 1) (by omega) (by omega) (.of _ (cw.envCons rfl (cw.envCons (dB rfl (by rw [hks2])) cw.envNil)) od_ pk_)
    | (exfalso; simp_all; done)
    | (exfalso; omega)
 ·obtain rfl : i = l.length := by omega
  rw [List.take_length]
  repeat' refine W_ ?_
  exact r1_
theorem vh (hst : ay G) (lo : Nat) (l : List az) (k : Int) (hn : l.length <= 1048576 /\ ∀ y ∈ l, az.small 1048576 y) (hk : 0 <= k /\ k <= 100000000000000) : Ct Tryz.prog G 153 [.sl lo 4 ((mkL dH bV k l).map (az.tw lo)), .int .i64 k] (fun _ => .int .i64 (kL bV k l)) := by
 refine ap Tryz.func153 rfl Tryz.ntmps153 rfl rfl fun w0 _ hG => ?_
 obtain ⟨hn, hsm⟩ := hn
 have hrl : ((mkL dH bV k l).map (az.tw lo)).length = l.length := by simp [ch]
 have hgr : ∀ i (h : i < l.length), ((mkL dH bV k l).map (az.tw lo))[i]? = some ((dH (kL bV k (l.take i)) l[i]).tw lo) := fun i h => by
   simp only [List.getElem?_map, fW (mk := dH) (nx := bV) (k := k) h]; rfl
 generalize (mkL dH bV k l).map (az.tw lo) = rows at hrl hgr |-
 repeat' refine W_ ?_
 apply aj (X := Nat) [0] (fun x => [(5, .int .i64 (x : Int)), (1, .int .i64 (kL bV k (l.take x)))]) (fun _ => []) (fun x => x <= l.length) (fun x => l.length - x) 0 (Nat.zero_le _)
 exact kp_; exact nw_
 ·exact .refl _
 intro i hi
 try dsimp only
 have hq := aV (k := k) (i := i) hn (iS hsm) hi
 by_cases hlt : i < l.length
 ·have hrow := hgr i hlt
  have hks := cO (nx := bV) (k := k) hlt
  have hb := hsm _ (List.getElem_mem hlt)
  generalize kL bV k (l.take i) = q at hq hrow hks |-
  generalize l[i] = x at hrow hks hb
  replace hrow : rows[i]? = some [.bool (decide ((q).tmod 3 = 0)), .int .i64 (q + 1), .int .i64 (q + 1 + 1), .sl lo 4 ((mkL ef bE (q + 1 + 1 + 1) x.instrs).map (ah.tw lo))] := hrow
  have hin := uo hst lo x.instrs (q + 1 + 1 + 1) hb.1 (by omega)
  have hinr := gW (nx := bE) (l := x.instrs) (k := q + 1 + 1 + 1) (jz _)
  have hks2 : kL bV k (l.take (i + 1)) = kL bE (q + 1 + 1 + 1) x.instrs := hks
  have hb0 : (decide ((q).tmod 3 = 0) != decide ((q).tmod 3 = 0)) = false := by simp
  have hi1 : ¬ (q + 1) ≠ (q + 1) := fun h => h rfl
  have hi2 : ¬ (q + 1 + 1) ≠ (q + 1 + 1) := fun h => h rfl
  repeat' (first | refine V_ ?_ | refine ab hG hst (hin) ?_ | refine c_ (fun hc => ?_) (fun hc => ?_))
  all_goals first
    | exact ag (i + 1) (by omega) (by omega) (.of _ (cw.envCons rfl (cw.envCons (dB rfl (by rw [hks2])) cw.envNil)) od_ pk_)
    | (exfalso; simp_all; done)
    | (exfalso; omega)
 ·obtain rfl : i = l.length := by omega
  rw [List.take_length]
  repeat' refine W_ ?_
  exact r1_
theorem pd (hst : ay G) (lo : Nat) (x : aB) (hb : x.small 1048576) (k : Int) (hk : 0 <= k /\ k <= 50000000000000) : Ct Tryz.prog G 72 [.agg ((cP k x).tw lo), .int .i64 k] (fun _ => .int .i64 (a7 k x)) := by
 refine ap Tryz.func72 rfl Tryz.ntmps72 rfl rfl fun w0 _ hG => ?_
 have h1 := aV (k := k) (i := x.classes.length) hb.1.1 (cA hb.1.2) (Nat.le_refl _)
 have h2 := aV (k := kL aC k x.classes) (i := x.codes.length) hb.2.1.1 (iS hb.2.1.2) (Nat.le_refl _)
 have h3 := aV (k := kL bV (kL aC k x.classes) x.codes) (i := x.entries.length) hb.2.2.1 (jA x.entries) (Nat.le_refl _)
 rw [List.take_length] at h1 h2 h3
 have c1 := iM hst lo x.classes k hb.1 (by omega)
 have c2 := vh hst lo x.codes (kL aC k x.classes) hb.2.1 (by omega)
 have c3 := ta hst lo x.entries (kL bV (kL aC k x.classes) x.codes) hb.2.2.1 (by omega)
 unfold aB.tw cP a7
 dsimp only
 repeat' (first | refine W_ ?_ | refine aL ?_ | refine ab hG hst (c1) ?_ | refine ab hG hst (c2) ?_ | refine ab hG hst (c3) ?_)
 exact r1_
end
end Go.Proofs.YtiihihgjiklnoaaGreatDoor
