/- Part 14 of the proof: the texts MkN, MkC, CpA, CpB, CpC, CpD, MkV, MkH. -/
import Derived.Test.YtiihihgjiklnoaaGreatDoorSr3
import Derived.Test.YtiihihgjiklnoaaGreatDoorSr8
import Derived.Test.YtiihihgjiklnoaaGreatDoorSr9
set_option linter.all false
set_option maxHeartbeats 2000000
set_option maxRecDepth 20000
namespace Go.Proofs.YtiihihgjiklnoaaGreatDoor
open Go Go.RowKit
def mkL {α : Type} (mk : Int -> α -> α) (nx : Int -> α -> Int) : Int -> List α -> List α
 | _, [] => []
 | k, x :: r => mk k x :: mkL mk nx (nx k x) r
def kL {α : Type} (nx : Int -> α -> Int) (k : Int) (l : List α) : Int := l.foldl nx k
def ptL {α : Type} (mk : Int -> α -> α) (nx : Int -> α -> Int) (k : Int) (l : List α) (i : Nat) : List α := mkL mk nx k (l.take i) ++ l.drop i
section
variable {α : Type} {mk : Int -> α -> α} {nx : Int -> α -> Int}
theorem bX : ∀ (k : Int) (l : List α), (mkL mk nx k l).length = l.length
 | _, [] => rfl
 | k, x :: r => by simp [mkL, bX (nx k x) r]
theorem uN : ∀ (k : Int) (a b : List α), mkL mk nx k (a ++ b) = mkL mk nx k a ++ mkL mk nx (kL nx k a) b
 | _, [], b => rfl
 | k, x :: r, b => by
   show mk k x :: mkL mk nx (nx k x) (r ++ b) = mk k x :: (mkL mk nx (nx k x) r ++ mkL mk nx (kL nx (nx k x) r) b)
   rw [uN]
theorem cI {k : Int} {l : List α} {i : Nat} (h : i < l.length) : kL nx k (l.take (i + 1)) = nx (kL nx k (l.take i)) l[i] := by
 rw [dN h]
 unfold kL
 rw [List.foldl_append]; rfl
theorem dk {k : Int} {l : List α} {i : Nat} (h : i <= l.length) : (ptL mk nx k l i).length = l.length := by
 unfold ptL
 rw [List.length_append, bX, List.length_take, List.length_drop]; omega
theorem d8 {k : Int} {l : List α} {i : Nat} (h : i < l.length) : (ptL mk nx k l i)[i]? = some l[i] := by
 unfold ptL
 rw [List.getElem?_append_right (by rw [bX, List.length_take]; omega), bX, List.length_take, show i - min i l.length = 0 by omega, List.drop_eq_getElem_cons h]; rfl
theorem fM {k : Int} {l : List α} {i : Nat} (h : i < l.length) : (ptL mk nx k l i).set i (mk (kL nx k (l.take i)) l[i]) = ptL mk nx k l (i + 1) := by
 unfold ptL
 rw [List.set_append_right _ _ (by rw [bX, List.length_take]; omega), bX, List.length_take, show i - min i l.length = 0 by omega, List.drop_eq_getElem_cons h, List.set_cons_zero, dN h, uN, List.append_assoc]; rfl
theorem et (k : Int) (l : List α) : ptL mk nx k l l.length = mkL mk nx k l := by
 unfold ptL
 rw [List.take_length, List.drop_length, List.append_nil]
theorem fY {k : Int} {l : List α} {i : Nat} (h : i < l.length) : (mkL mk nx k l)[i]? = some (mk (kL nx k (l.take i)) l[i]) := by
 conv => lhs; rw [<- List.take_append_drop i l, uN]
 rw [List.getElem?_append_right (by rw [bX, List.length_take]; omega), bX, List.length_take, show i - min i l.length = 0 by omega, List.drop_eq_getElem_cons h]; rfl
theorem gK {c : Nat} : ∀ {l : List α} {k : Int}, (∀ x ∈ l, ∀ q, q <= nx q x /\ nx q x <= q + c) -> k <= kL nx k l /\ kL nx k l <= k + c * l.length
 | [], k, _ => by show k <= k /\ k <= k + _; simp
 | x :: r, k, h => by
   have h1 := h x List.mem_cons_self k
   have h2 := gK (l := r) (k := nx k x) (fun y hy => h y (List.mem_cons_of_mem _ hy))
   have e : kL nx k (x :: r) = kL nx (nx k x) r := rfl
   have e2 : (c : Int) * (((x :: r).length : Nat) : Int) = c * (r.length : Nat) + c := by rw [List.length_cons, Int.natCast_add, Int.mul_add]; simp
   rw [e, e2]
   omega
theorem aZ {c : Nat} {l : List α} {k : Int} {i : Nat} {n : Nat} (hn : l.length <= n) (h : ∀ x ∈ l, ∀ q, q <= nx q x /\ nx q x <= q + c) (hi : i <= l.length) : k <= kL nx k (l.take i) /\ kL nx k (l.take i) <= k + c * n := by
 have h1 := gK (nx := nx) (c := c) (l := l.take i) (k := k) (fun x hx => h x (List.mem_of_mem_take hx))
 have h2 : (l.take i).length <= n := by rw [List.length_take]; omega
 have h3 : (c : Int) * ((l.take i).length : Nat) <= c * n := by exact_mod_cast Nat.mul_le_mul_left c h2
 omega
end
theorem ad9 {α : Type} (ob : α -> aW) {l : List α} {ps : List (Nat × Nat)} {i : Nat} {p : Nat × Nat} {x : α} (hx : l[i]? = some x) (hp : ps[i]? = some p) : (nO ob l ps)[i]? = some (p.1, p.2, ob x) := by
 unfold nO
 rw [List.getElem?_zipWith, hx, hp]
theorem acG {α : Type} (mk : α -> Nat × Nat -> List TV) {l : List α} {ps : List (Nat × Nat)} {i : Nat} {p : Nat × Nat} {x : α} (hx : l[i]? = some x) (hp : ps[i]? = some p) : (nR mk l ps)[i]? = some (mk x p) := by
 unfold nR
 rw [List.getElem?_zipWith, hx, hp]
theorem oq {α β γ : Type} (f : α -> β -> γ) : ∀ {l : List α} {ps : List β} {i : Nat} {p : β} {x : α}, ps[i]? = some p -> List.zipWith f (l.set i x) ps = (List.zipWith f l ps).set i (f x p)
 | [], _, _, _, _, _ => by simp
 | _ :: _, [], _, _, _, h => by simp at h
 | a :: l, q :: ps, 0, p, x, h => by simp at h; subst h; simp
 | a :: l, q :: ps, i + 1, p, x, h => by
   have := oq f (l := l) (ps := ps) (i := i) (p := p) (x := x) (by simpa using h)
   simp [this]
theorem ach {α : Type} (mk : α -> Nat × Nat -> List TV) {l : List α} {ps : List (Nat × Nat)} {i : Nat} {p : Nat × Nat} {x : α} (hp : ps[i]? = some p) : nR mk (l.set i x) ps = (nR mk l ps).set i (mk x p) := oq mk hp
theorem qX {α : Type} : ∀ {l : List α} {i : Nat} {x : α}, l[i]? = some x -> l.Perm (x :: l.eraseIdx i)
 | [], _, _, h => by simp at h
 | a :: l, 0, x, h => by simp at h; subst h; exact .refl _
 | a :: l, i + 1, x, h => by
   have := qX (l := l) (i := i) (x := x) (by simpa using h)
   exact (this.cons a).trans (.swap x a _)
theorem kp {α : Type} : ∀ (l : List α) (i : Nat) (x : α), (l.set i x).eraseIdx i = l.eraseIdx i
 | [], _, _ => rfl
 | a :: l, 0, x => rfl
 | a :: l, i + 1, x => by simp [kp l i x]
theorem aal {α : Type} (ob : α -> aW) {l : List α} {ps : List (Nat × Nat)} {i : Nat} {p : Nat × Nat} {x : α} (hx : l[i]? = some x) (hp : ps[i]? = some p) : (nO ob l ps).Perm ((p.1, p.2, ob x) :: (nO ob l ps).eraseIdx i) := qX (ad9 ob hx hp)
theorem aeA {α : Type} (ob : α -> aW) {l : List α} {ps : List (Nat × Nat)} {i : Nat} {p : Nat × Nat} {x : α} (hl : i < l.length) (hp : ps[i]? = some p) : (nO ob (l.set i x) ps).Perm ((p.1, p.2, ob x) :: (nO ob l ps).eraseIdx i) := by
 have h := aal ob (l := l.set i x) (ps := ps) (i := i) (p := p) (x := x) (by rw [List.getElem?_set_self hl]) hp
 have e : (nO ob (l.set i x) ps).eraseIdx i = (nO ob l ps).eraseIdx i := by
   unfold nO
   rw [oq _ hp, kp]
 rw [e] at h
 exact h
theorem xg {a z : Nat × Nat × aW} {N E : aG} (h : N.Perm (z :: E)) (R : aG) : cG (z :: a :: (E ++ R)) (a :: (N ++ R)) := .perm (by
 have h1 : (a :: (N ++ R)).Perm (a :: z :: (E ++ R)) := ((h.append_right R)).cons a
 exact (List.Perm.swap a z _).trans h1.symm)
theorem aab {a z : Nat × Nat × aW} {N E : aG} (h : N.Perm (z :: E)) (R : aG) : cG (a :: (N ++ R)) (z :: a :: (E ++ R)) := .perm (by
 have h1 : (a :: (N ++ R)).Perm (a :: z :: (E ++ R)) := ((h.append_right R)).cons a
 exact h1.trans (List.Perm.swap z a _))
theorem rV (A B C : aG) : cG (B ++ (A ++ C)) (A ++ (B ++ C)) := .perm (by
 rw [<- List.append_assoc, <- List.append_assoc]
 exact List.perm_append_comm.append_right C)
def cY (k : Int) (_ : ByteArray) : ByteArray := dL k
def bm (k : Int) (_ : ByteArray) : Int := k + 1
theorem eU (l : List ByteArray) : ∀ x ∈ l, ∀ q, q <= bm q x /\ bm q x <= q + (1 : Nat) := fun x _ q => by unfold bm; omega
theorem abt (l : List ByteArray) (k : Nat) (s : ByteArray) : (bN l).set k [TV.str s] = bN (l.set k s) := by simp [bN, List.map_set]
def ef (k : Int) (_ : ah) : ah := ⟨k, k + 1, k + 1 + 1, dL (k + 1 + 1 + 1)⟩
def bC (k : Int) (_ : ah) : Int := k + 1 + 1 + 1 + 1
theorem ju (l : List ah) : ∀ x ∈ l, ∀ q, q <= bC q x /\ bC q x <= q + (4 : Nat) := fun x _ q => by unfold bC; omega
def eG (k : Int) (_ : aA) : aA := ⟨k, decide ((k + 1).tmod 3 = 0), dL (k + 1 + 1), k + 1 + 1 + 1⟩
def bJ (k : Int) (_ : aA) : Int := k + 1 + 1 + 1 + 1
theorem jw (l : List aA) : ∀ x ∈ l, ∀ q, q <= bJ q x /\ bJ q x <= q + (4 : Nat) := fun x _ q => by unfold bJ; omega
def aY (k : Int) (x : aa) : aa := ⟨dL (k), k + 1, mkL cY bm (k + 1 + 1) x.fields⟩
def ay (k : Int) (x : aa) : Int := kL bm (k + 1 + 1) x.fields
theorem co {l : List aa} (h : ∀ y ∈ l, aa.small 1048576 y) : ∀ x ∈ l, ∀ q, q <= ay q x /\ ay q x <= q + (1048578 : Nat) := fun x hx q => by
 have h1 := h x hx
 have h2 := h1.2.1
 have h3 := gK (nx := bm) (l := x.fields) (k := q + 1 + 1) (eU _)
 unfold ay
 omega
def dH (k : Int) (x : aC) : aC := ⟨decide ((k).tmod 3 = 0), k + 1, k + 1 + 1, mkL ef bC (k + 1 + 1 + 1) x.instrs⟩
def bR (k : Int) (x : aC) : Int := kL bC (k + 1 + 1 + 1) x.instrs
theorem i7 {l : List aC} (h : ∀ y ∈ l, aC.small 1048576 y) : ∀ x ∈ l, ∀ q, q <= bR q x /\ bR q x <= q + (4194307 : Nat) := fun x hx q => by
 have h1 := h x hx
 have h2 := h1.1
 have h3 := gK (nx := bC) (l := x.instrs) (k := q + 1 + 1 + 1) (ju _)
 unfold bR
 omega
section
variable {G : World -> Prop}
theorem iR (hst : az G) (s b : Nat) (l : List ByteArray) (k : Int) (hn : l.length <= 1048576) (hk : 0 <= k /\ k <= 1000000000000000) : CtM Tryz.prog G 28 [.ms s b 0 l.length, .int .i64 k] [(s, b, .row 1 (bN (l)))] (fun _ : Unit => True) (fun _ => [(s, b, .row 1 (bN (mkL cY bm k l)))]) (fun _ => .int .i64 (kL bm k l)) := by
 refine aw Tryz.func28 rfl Tryz.ntmps28 rfl rfl rfl fun w0 R gs objsR hG hR => ?_
 obtain rfl := hR.inv1
 clear hR
 repeat' refine W_ ?_
 apply ak (X := Nat) [0, 1000000] (fun x => [(5, .int .i64 (x : Int)), (1, .int .i64 (kL bm k (l.take x)))]) (fun x => (s, b, .row 1 (bN (ptL cY bm k l x))) :: R) (fun x => x <= l.length) (fun x => l.length - x) 0 (Nat.zero_le _)
 exact kp_; exact nw_
 ·exact .refl _
 intro i hi
 try dsimp only
 have hq := aZ (k := k) (i := i) hn (eU l) hi
 by_cases hlt : i < l.length
 ·have hrow : (bN (ptL cY bm k l i))[i]? = some ((fun s : ByteArray => [TV.str s]) l[i]) := by
    simp only [bN, List.getElem?_map, d8 hlt]; rfl
  have hset : (bN (ptL cY bm k l i)).set i ((fun s : ByteArray => [TV.str s]) (cY (kL bm k (l.take i)) l[i])) = bN (ptL cY bm k l (i + 1)) := by
    rw [<- fM hlt, abt]
  have hks := cI (nx := bm) (k := k) hlt
  have hrl : (bN (ptL cY bm k l i)).length = l.length := by simp [bN, dk hi]
  generalize bN (ptL cY bm k l i) = rows at hrow hset hrl |-
  generalize kL bm k (l.take i) = q at hq hset hks |-
  generalize l[i] = x at hrow hset hks
  replace hrow : rows[i]? = some [.str x] := hrow
  have hks2 : kL bm k (l.take (i + 1)) = q + 1 := hks
  repeat' (first | refine W_ ?_ | refine bA ?_ | ((with_reducible apply lV); rfl; kernel_rfl; (repeat (first | exact bV.nil | ((with_reducible apply bV.cons); rfl; exact .same _))); exact hG; exact hst; exact bP _ (by omega) (by omega)))
  refine ag (i + 1) (by omega) (by omega) (.of _ (cE.envCons rfl (cE.envCons (dG rfl (by rw [hks2])) cE.envNil)) od_ ?_)
  rw [<- hset]
  (try simp only [List.set_set])
  exact .refl _
 ·obtain rfl : i = l.length := by omega
  rw [et, List.take_length]
  repeat' refine W_ ?_
  exact av x_ rfl () trivial rfl (.cons _ _ _ _ (.nil R)) pk_ (.tmp _ _ rfl) rfl
theorem pE (hst : az G) (s b : Nat) (l : List ah) (k : Int) (hn : l.length <= 1048576) (hk : 0 <= k /\ k <= 1000000000000000) : CtM Tryz.prog G 149 [.ms s b 0 l.length, .int .i64 k] [(s, b, .row 4 ((l).map (ah.tw 0)))] (fun _ : Unit => True) (fun _ => [(s, b, .row 4 ((mkL ef bC k l).map (ah.tw 0)))]) (fun _ => .int .i64 (kL bC k l)) := by
 refine aw Tryz.func149 rfl Tryz.ntmps149 rfl rfl rfl fun w0 R gs objsR hG hR => ?_
 obtain rfl := hR.inv1
 clear hR
 repeat' refine W_ ?_
 apply ak (X := Nat) [0, 1000000] (fun x => [(5, .int .i64 (x : Int)), (1, .int .i64 (kL bC k (l.take x)))]) (fun x => (s, b, .row 4 ((ptL ef bC k l x).map (ah.tw 0))) :: R) (fun x => x <= l.length) (fun x => l.length - x) 0 (Nat.zero_le _)
 exact kp_; exact nw_
 ·exact .refl _
 intro i hi
 try dsimp only
 have hq := aZ (k := k) (i := i) hn (ju l) hi
 by_cases hlt : i < l.length
 ·have hrow : ((ptL ef bC k l i).map (ah.tw 0))[i]? = some ((ah.tw 0) l[i]) := by
    simp only [bN, List.getElem?_map, d8 hlt]; rfl
  have hset : ((ptL ef bC k l i).map (ah.tw 0)).set i ((ah.tw 0) (ef (kL bC k (l.take i)) l[i])) = (ptL ef bC k l (i + 1)).map (ah.tw 0) := by
    rw [<- fM hlt, List.map_set]
  have hks := cI (nx := bC) (k := k) hlt
  have hrl : ((ptL ef bC k l i).map (ah.tw 0)).length = l.length := by simp [bN, dk hi]
  generalize (ptL ef bC k l i).map (ah.tw 0) = rows at hrow hset hrl |-
  generalize kL bC k (l.take i) = q at hq hset hks |-
  generalize l[i] = x at hrow hset hks
  replace hrow : rows[i]? = some [.int .i64 x.op, .int .i64 x.a, .int .i64 x.b, .str x.text] := hrow
  have hr1 : (rows.set i [.int .i64 q, .int .i64 x.a, .int .i64 x.b, .str x.text])[i]? = some [.int .i64 q, .int .i64 x.a, .int .i64 x.b, .str x.text] := by rw [List.getElem?_set_self (by omega)]
  have hks2 : kL bC k (l.take (i + 1)) = q + 1 + 1 + 1 + 1 := hks
  repeat' (first | refine W_ ?_ | refine bA ?_ | ((with_reducible apply lV); rfl; kernel_rfl; (repeat (first | exact bV.nil | ((with_reducible apply bV.cons); rfl; exact .same _))); exact hG; exact hst; exact bP _ (by omega) (by omega)))
  refine ag (i + 1) (by omega) (by omega) (.of _ (cE.envCons rfl (cE.envCons (dG rfl (by rw [hks2])) cE.envNil)) od_ ?_)
  rw [<- hset]
  (try simp only [List.set_set])
  exact .refl _
 ·obtain rfl : i = l.length := by omega
  rw [et, List.take_length]
  repeat' refine W_ ?_
  exact av x_ rfl () trivial rfl (.cons _ _ _ _ (.nil R)) pk_ (.tmp _ _ rfl) rfl
theorem pj (hst : az G) (s b : Nat) (l : List aA) (k : Int) (hn : l.length <= 1048576) (hk : 0 <= k /\ k <= 1000000000000000) : CtM Tryz.prog G 67 [.ms s b 0 l.length, .int .i64 k] [(s, b, .row 4 ((l).map (aA.tw 0)))] (fun _ : Unit => True) (fun _ => [(s, b, .row 4 ((mkL eG bJ k l).map (aA.tw 0)))]) (fun _ => .int .i64 (kL bJ k l)) := by
 refine aw Tryz.func67 rfl Tryz.ntmps67 rfl rfl rfl fun w0 R gs objsR hG hR => ?_
 obtain rfl := hR.inv1
 clear hR
 repeat' refine W_ ?_
 apply ak (X := Nat) [0, 1000000] (fun x => [(5, .int .i64 (x : Int)), (1, .int .i64 (kL bJ k (l.take x)))]) (fun x => (s, b, .row 4 ((ptL eG bJ k l x).map (aA.tw 0))) :: R) (fun x => x <= l.length) (fun x => l.length - x) 0 (Nat.zero_le _)
 exact kp_; exact nw_
 ·exact .refl _
 intro i hi
 try dsimp only
 have hq := aZ (k := k) (i := i) hn (jw l) hi
 by_cases hlt : i < l.length
 ·have hrow : ((ptL eG bJ k l i).map (aA.tw 0))[i]? = some ((aA.tw 0) l[i]) := by
    simp only [bN, List.getElem?_map, d8 hlt]; rfl
  have hset : ((ptL eG bJ k l i).map (aA.tw 0)).set i ((aA.tw 0) (eG (kL bJ k (l.take i)) l[i])) = (ptL eG bJ k l (i + 1)).map (aA.tw 0) := by
    rw [<- fM hlt, List.map_set]
  have hks := cI (nx := bJ) (k := k) hlt
  have hrl : ((ptL eG bJ k l i).map (aA.tw 0)).length = l.length := by simp [bN, dk hi]
  generalize (ptL eG bJ k l i).map (aA.tw 0) = rows at hrow hset hrl |-
  generalize kL bJ k (l.take i) = q at hq hset hks |-
  generalize l[i] = x at hrow hset hks
  replace hrow : rows[i]? = some [.int .i64 x.owner, .bool x.class_, .str x.selector, .int .i64 x.code] := hrow
  have hr1 : (rows.set i [.int .i64 q, .bool x.class_, .str x.selector, .int .i64 x.code])[i]? = some [.int .i64 q, .bool x.class_, .str x.selector, .int .i64 x.code] := by rw [List.getElem?_set_self (by omega)]
  have hks2 : kL bJ k (l.take (i + 1)) = q + 1 + 1 + 1 + 1 := hks
  repeat' (first | refine W_ ?_ | refine bA ?_ | ((with_reducible apply lV); rfl; kernel_rfl; (repeat (first | exact bV.nil | ((with_reducible apply bV.cons); rfl; exact .same _))); exact hG; exact hst; exact bP _ (by omega) (by omega)))
  refine ag (i + 1) (by omega) (by omega) (.of _ (cE.envCons rfl (cE.envCons (dG rfl (by rw [hks2])) cE.envNil)) od_ ?_)
  rw [<- hset]
  (try simp only [List.set_set])
  exact .refl _
 ·obtain rfl : i = l.length := by omega
  rw [et, List.take_length]
  repeat' refine W_ ?_
  exact av x_ rfl () trivial rfl (.cons _ _ _ _ (.nil R)) pk_ (.tmp _ _ rfl) rfl
theorem gc (hst : az G) (s b : Nat) (l : List aa) (ps : List (Nat × Nat)) (hps : ps.length = l.length) (k : Int) (hn : l.length <= 1048576 /\ ∀ y ∈ l, aa.small 1048576 y) (hk : 0 <= k /\ k <= 100000000000000) :
   CtM Tryz.prog G 65 [.ms s b 0 l.length, .int .i64 k] ((s, b, .row 3 (nR eM l ps)) :: nO fK l ps) (fun _ : Unit => True) (fun _ => (s, b, .row 3 (nR eM (mkL aY ay k l) ps)) :: nO fK (mkL aY ay k l) ps) (fun _ => .int .i64 (kL ay k l)) := by
 refine aw Tryz.func65 rfl Tryz.ntmps65 rfl rfl rfl fun w0 R gs objsR hG hR => ?_
 obtain rfl := hR.eq
 clear hR
 obtain ⟨hn, hsm⟩ := hn
 repeat' refine W_ ?_
 apply ak (X := Nat) [0, 1000000] (fun x => [(5, .int .i64 (x : Int)), (1, .int .i64 (kL ay k (l.take x)))]) (fun x => (s, b, .row 3 (nR eM (ptL aY ay k l x) ps)) :: (nO fK (ptL aY ay k l x) ps ++ R)) (fun x => x <= l.length) (fun x => l.length - x) 0 (Nat.zero_le _)
 exact kp_; exact nw_
 ·exact .refl _
 intro i hi
 try dsimp only
 have hq := aZ (k := k) (i := i) hn (co hsm) hi
 by_cases hlt : i < l.length
 ·obtain ⟨p, hp⟩ : ∃ p, ps[i]? = some p := ⟨_, List.getElem?_eq_getElem (by omega)⟩
  have hpl : i < (ptL aY ay k l i).length := by rw [dk hi]; exact hlt
  have hrow := acG eM (d8 (mk := aY) (nx := ay) (k := k) hlt) hp
  have hset := ach eM (l := ptL aY ay k l i) (x := aY (kL ay k (l.take i)) l[i]) hp
  have hout := aal fK (d8 (mk := aY) (nx := ay) (k := k) hlt) hp
  have hin := aeA fK (x := aY (kL ay k (l.take i)) l[i]) hpl hp
  rw [fM hlt] at hset hin
  have hks := cI (nx := ay) (k := k) hlt
  have hrl : (nR eM (ptL aY ay k l i) ps).length = l.length := by rw [pV _ (by rw [dk hi]; exact hps), dk hi]
  have hb := hsm _ (List.getElem_mem hlt)
  generalize (nO fK (ptL aY ay k l i) ps).eraseIdx i = E at hout hin
  generalize nO fK (ptL aY ay k l i) ps = N0 at hout |-
  generalize nR eM (ptL aY ay k l i) ps = rows at hrow hset hrl |-
  generalize kL ay k (l.take i) = q at hq hset hks hin |-
  generalize l[i] = x at hrow hset hks hout hin hb
  replace hrow : rows[i]? = some [.str x.name, .int .i64 x.parent, .ms p.1 p.2 0 x.fields.length] := hrow
  have hr1 : (rows.set i [.str (dL (q)), .int .i64 x.parent, .ms p.1 p.2 0 x.fields.length])[i]? = some [.str (dL (q)), .int .i64 x.parent, .ms p.1 p.2 0 x.fields.length] := by rw [List.getElem?_set_self (by omega)]
  have hct := iR hst p.1 p.2 x.fields (q + 1 + 1) hb.2.1 (by omega)
  repeat' (first | refine W_ ?_ | refine bA ?_ | ((with_reducible apply lV); rfl; kernel_rfl; (repeat (first | exact bV.nil | ((with_reducible apply bV.cons); rfl; exact .same _))); exact hG; exact hst; exact bP _ (by omega) (by omega)))
  refine eY (xg hout R) ?_
  repeat' (first | refine W_ ?_ | ((with_reducible apply aJ); rfl; kernel_rfl; (repeat (first | exact aH.nil | ((with_reducible apply aH.cons); rfl))); exact hG; exact hct; exact .cons _ _ _ _ (.nil _); intro y hy; refine bI ?_))
  refine ag (i + 1) (by omega) (by omega) (.of _ (cE.envCons rfl (cE.envCons (dG rfl (by rw [hks]; rfl)) cE.envNil)) od_ ?_)
  rw [hset]
  simp only [List.set_set]
  have hcl : eM (aY q x) p = [.str (dL (q)), .int .i64 (q + 1), .ms p.1 p.2 0 x.fields.length] := by
    unfold eM aY
    dsimp only
    rw [bX]
  rw [hcl]
  exact aab hin R
 ·obtain rfl : i = l.length := by omega
  rw [et, List.take_length]
  repeat' refine W_ ?_
  exact av x_ rfl () trivial rfl (.cons _ _ _ _ (.app _ R)) (.refl _) (.tmp _ _ rfl) rfl
theorem rS (hst : az G) (s b : Nat) (l : List aC) (ps : List (Nat × Nat)) (hps : ps.length = l.length) (k : Int) (hn : l.length <= 1048576 /\ ∀ y ∈ l, aC.small 1048576 y) (hk : 0 <= k /\ k <= 100000000000000) :
   CtM Tryz.prog G 66 [.ms s b 0 l.length, .int .i64 k] ((s, b, .row 4 (nR eH l ps)) :: nO fq l ps) (fun _ : Unit => True) (fun _ => (s, b, .row 4 (nR eH (mkL dH bR k l) ps)) :: nO fq (mkL dH bR k l) ps) (fun _ => .int .i64 (kL bR k l)) := by
 refine aw Tryz.func66 rfl Tryz.ntmps66 rfl rfl rfl fun w0 R gs objsR hG hR => ?_
 obtain rfl := hR.eq
 clear hR
 obtain ⟨hn, hsm⟩ := hn
 repeat' refine W_ ?_
 apply ak (X := Nat) [0, 1000000] (fun x => [(5, .int .i64 (x : Int)), (1, .int .i64 (kL bR k (l.take x)))]) (fun x => (s, b, .row 4 (nR eH (ptL dH bR k l x) ps)) :: (nO fq (ptL dH bR k l x) ps ++ R)) (fun x => x <= l.length) (fun x => l.length - x) 0 (Nat.zero_le _)
 exact kp_; exact nw_
 ·exact .refl _
 intro i hi
 try dsimp only
 have hq := aZ (k := k) (i := i) hn (i7 hsm) hi
 by_cases hlt : i < l.length
 ·obtain ⟨p, hp⟩ : ∃ p, ps[i]? = some p := ⟨_, List.getElem?_eq_getElem (by omega)⟩
  have hpl : i < (ptL dH bR k l i).length := by rw [dk hi]; exact hlt
  have hrow := acG eH (d8 (mk := dH) (nx := bR) (k := k) hlt) hp
  have hset := ach eH (l := ptL dH bR k l i) (x := dH (kL bR k (l.take i)) l[i]) hp
  have hout := aal fq (d8 (mk := dH) (nx := bR) (k := k) hlt) hp
  have hin := aeA fq (x := dH (kL bR k (l.take i)) l[i]) hpl hp
  rw [fM hlt] at hset hin
  have hks := cI (nx := bR) (k := k) hlt
  have hrl : (nR eH (ptL dH bR k l i) ps).length = l.length := by rw [pV _ (by rw [dk hi]; exact hps), dk hi]
  have hb := hsm _ (List.getElem_mem hlt)
  generalize (nO fq (ptL dH bR k l i) ps).eraseIdx i = E at hout hin
  generalize nO fq (ptL dH bR k l i) ps = N0 at hout |-
  generalize nR eH (ptL dH bR k l i) ps = rows at hrow hset hrl |-
  generalize kL bR k (l.take i) = q at hq hset hks hin |-
  generalize l[i] = x at hrow hset hks hout hin hb
  replace hrow : rows[i]? = some [.bool x.block, .int .i64 x.params, .int .i64 x.slots, .ms p.1 p.2 0 x.instrs.length] := hrow
  have hr1 : (rows.set i [.bool (decide ((q).tmod 3 = 0)), .int .i64 x.params, .int .i64 x.slots, .ms p.1 p.2 0 x.instrs.length])[i]? = some [.bool (decide ((q).tmod 3 = 0)), .int .i64 x.params, .int .i64 x.slots, .ms p.1 p.2 0 x.instrs.length] := by rw [List.getElem?_set_self (by omega)]
  have hct := pE hst p.1 p.2 x.instrs (q + 1 + 1 + 1) hb.1 (by omega)
  repeat' (first | refine W_ ?_ | refine bA ?_)
  refine eY (xg hout R) ?_
  repeat' (first | refine W_ ?_ | ((with_reducible apply aJ); rfl; kernel_rfl; (repeat (first | exact aH.nil | ((with_reducible apply aH.cons); rfl))); exact hG; exact hct; exact .cons _ _ _ _ (.nil _); intro y hy; refine bI ?_))
  refine ag (i + 1) (by omega) (by omega) (.of _ (cE.envCons rfl (cE.envCons (dG rfl (by rw [hks]; rfl)) cE.envNil)) od_ ?_)
  rw [hset]
  simp only [List.set_set]
  have hcl : eH (dH q x) p = [.bool (decide ((q).tmod 3 = 0)), .int .i64 (q + 1), .int .i64 (q + 1 + 1), .ms p.1 p.2 0 x.instrs.length] := by
    unfold eH dH
    dsimp only
    rw [bX]
  rw [hcl]
  exact aab hin R
 ·obtain rfl : i = l.length := by omega
  rw [et, List.take_length]
  repeat' refine W_ ?_
  exact av x_ rfl () trivial rfl (.cons _ _ _ _ (.app _ R)) (.refl _) (.tmp _ _ rfl) rfl
end
def sa (l : List aa) (y : (Nat × Nat) × List (Nat × Nat)) : aG := (y.1.1, y.1.2, .row 3 (nR eM l y.2)) :: nO fK l y.2
def aeL (l : List aC) (y : (Nat × Nat) × List (Nat × Nat)) : aG := (y.1.1, y.1.2, .row 4 (nR eH l y.2)) :: nO fq l y.2
def aer (l : List aA) (y : Nat × Nat) : aG := [(y.1, y.2, .row 4 (l.map (aA.tw 0)))]
def CbP : Type := ((Nat × Nat) × List (Nat × Nat)) × ((Nat × Nat) × List (Nat × Nat)) × (Nat × Nat)
def cbO (x : aD) (y : CbP) : aG := sa x.classes y.1 ++ (aeL x.codes y.2.1 ++ aer x.entries y.2.2)
def cbC (x : aD) (y : CbP) : List TV := [.ms y.1.1.1 y.1.1.2 0 x.classes.length, .ms y.2.1.1.1 y.2.1.1.2 0 x.codes.length, .ms y.2.2.1 y.2.2.2 0 x.entries.length, .int .i64 x.main]
def cbI (x : aD) (y : CbP) : Prop := y.1.2.length = x.classes.length /\ y.2.1.2.length = x.codes.length
theorem jh (A : aG) (x z : Nat × Nat × aW) (R : aG) : cG (x :: z :: (A ++ R)) (A ++ (x :: z :: R)) := .perm (by
 have h1 : (A ++ (x :: z :: R)).Perm (x :: (A ++ (z :: R))) := List.perm_middle
 have h2 : (A ++ (z :: R)).Perm (z :: (A ++ R)) := List.perm_middle
 exact (h1.trans (h2.cons x)).symm)
theorem vy (A B C R : aG) : ((A ++ (B ++ C)) ++ R).Perm (C ++ (B ++ (A ++ R))) := by
 have h1 : (A ++ (B ++ C)).Perm (C ++ (B ++ A)) := by
   have : (A ++ (B ++ C)).Perm ((B ++ C) ++ A) := List.perm_append_comm
   refine this.trans ?_
   have h2 : ((B ++ C) ++ A).Perm ((C ++ B) ++ A) := (List.perm_append_comm).append_right A
   rw [List.append_assoc] at h2
   rw [List.append_assoc] at h2 |-
   exact h2
 have h3 := h1.append_right R
 simpa [List.append_assoc] using h3
theorem rL (A B C R : aG) : cG (C ++ (A ++ (B ++ R))) (B ++ (A ++ (C ++ R))) := .perm (by
 have h1 : (C ++ (A ++ B)).Perm (B ++ (A ++ C)) := by
   have h := (vy C A B [])
   simpa using h
 simpa [List.append_assoc] using h1.append_right R)
theorem pG (A B C R : aG) : cG (A ++ (B ++ (C ++ R))) (C ++ (A ++ (B ++ R))) := .perm (by
 have h1 : (A ++ (B ++ C)).Perm (C ++ (A ++ B)) := by
   rw [<- List.append_assoc]
   exact List.perm_append_comm
 simpa [List.append_assoc] using h1.append_right R)
section
variable {G : World -> Prop}
theorem pb (hst : az G) (lo : Nat) (x : aD) (hb : x.small 1048576) : CtM Tryz.prog G 14 [.agg (x.tw lo)] [] (cbI x) (cbO x) (fun y => .agg (cbC x y)) := by
 refine aw Tryz.func14 rfl Tryz.ntmps14 rfl rfl rfl fun w0 R gs objsR hG hR => ?_
 obtain rfl := hR.inv0
 clear hR
 have c1 := iG hst lo x.classes hb.1
 have c2 := uA hst lo x.codes hb.2.1
 have c3 := tc hst lo x.entries hb.2.2
 unfold aD.tw
 repeat' (first | refine W_ ?_ | refine aM ?_ | (refine am ?_; intro ss bb) | refine ac ?_ | ((with_reducible apply aJ); rfl; kernel_rfl; (repeat (first | exact aH.nil | ((with_reducible apply aH.cons); rfl))); exact hG; (first | exact c1 | exact c2 | exact c3); exact .nil _; intro y hy; refine bY (jh _ _ _ _) ?_))
 rename_i yc hyc yd hyd
 refine av (t1 := .agg [.ms yc.1.1 yc.1.2 0 x.classes.length, .ms yd.1.1 yd.1.2 0 x.codes.length, .ms y.1 y.2 0 x.entries.length, .int .i64 x.main]) x_ rfl (yc, yd, y) ⟨hyc, hyd⟩ rfl (.app _ R) (.drop (.drop (.perm (vy _ _ _ R)))) (.cell _ _ _ _ _ rfl mm_ (by kernel_rfl) (by kernel_rfl) (by kernel_rfl)) rfl
def cJ (k : Int) (x : aD) : aD := ⟨mkL aY ay k x.classes, mkL dH bR (kL ay k x.classes) x.codes, mkL eG bJ (kL bR (kL ay k x.classes) x.codes) x.entries, x.main⟩
def ba (k : Int) (x : aD) : Int := kL bJ (kL bR (kL ay k x.classes) x.codes) x.entries
theorem ir {x : aD} (hb : x.small 1048576) (k : Int) : k <= ba k x /\ ba k x <= k + 6000000000000 := by
 have h1 := aZ (k := k) (i := x.classes.length) hb.1.1 (co hb.1.2) (Nat.le_refl _)
 have h2 := aZ (k := kL ay k x.classes) (i := x.codes.length) hb.2.1.1 (i7 hb.2.1.2) (Nat.le_refl _)
 have h3 := aZ (k := kL bR (kL ay k x.classes) x.codes) (i := x.entries.length) hb.2.2.1 (jw x.entries) (Nat.le_refl _)
 rw [List.take_length] at h1 h2 h3
 unfold ba
 omega
theorem mC (hst : az G) (x : aD) (y : CbP) (hy : cbI x y) (hb : x.small 1048576) (k : Int) (hk : 0 <= k /\ k <= 50000000000000) :
   CtM Tryz.prog G 18 [.agg (cbC x y), .int .i64 k] (cbO x y) (fun _ : Unit => True) (fun _ => cbO (cJ k x) y) (fun _ => .int .i64 (ba k x)) := by
 refine aw Tryz.func18 rfl Tryz.ntmps18 rfl rfl rfl fun w0 R gs objsR hG hR => ?_
 obtain rfl := hR.eq
 clear hR
 have h1 := aZ (k := k) (i := x.classes.length) hb.1.1 (co hb.1.2) (Nat.le_refl _)
 have h2 := aZ (k := kL ay k x.classes) (i := x.codes.length) hb.2.1.1 (i7 hb.2.1.2) (Nat.le_refl _)
 rw [List.take_length] at h1 h2
 have c1 := gc hst y.1.1.1 y.1.1.2 x.classes y.1.2 hy.1 k hb.1 (by omega)
 have c2 := rS hst y.2.1.1.1 y.2.1.1.2 x.codes y.2.1.2 hy.2 (kL ay k x.classes) hb.2.1 (by omega)
 have c3 := pj hst y.2.2.1 y.2.2.2 x.entries (kL bR (kL ay k x.classes) x.codes) hb.2.2.1 (by omega)
 have e0 : cbO x y ++ R = sa x.classes y.1 ++ (aeL x.codes y.2.1 ++ (aer x.entries y.2.2 ++ R)) := by unfold cbO; simp [List.append_assoc]
 have e1 : cbO (cJ k x) y ++ R = sa (cJ k x).classes y.1 ++ (aeL (cJ k x).codes y.2.1 ++ (aer (cJ k x).entries y.2.2 ++ R)) := by unfold cbO; simp [List.append_assoc]
 rw [e0]
 unfold cbC
 repeat' (first | refine W_ ?_ | refine aM ?_ | ((with_reducible apply aJ); rfl; kernel_rfl; (repeat (first | exact aH.nil | ((with_reducible apply aH.cons); rfl))); exact hG; exact c1; exact .app _ _; intro z hz; refine bY (rV _ _ _) ?_) | ((with_reducible apply aJ); rfl; kernel_rfl; (repeat (first | exact aH.nil | ((with_reducible apply aH.cons); rfl))); exact hG; exact c2; exact .app _ _; intro z hz; refine bY (rL _ _ _ _) ?_) | ((with_reducible apply aJ); rfl; kernel_rfl; (repeat (first | exact aH.nil | ((with_reducible apply aH.cons); rfl))); exact hG; exact c3; exact .app _ _; intro z hz))
 refine av x_ rfl () trivial rfl (.app _ R) ?_ (.tmp _ _ rfl) rfl
 rw [e1]
 exact pG _ _ _ R
end
theorem rh {α : Type} (mk : α -> Nat × Nat -> List TV) {l : List α} {ps : List (Nat × Nat)} {i : Nat} (h : i < l.length) (hp : ps.length = i) (p : Nat × Nat) : nR mk (l.take i) ps ++ [mk l[i] p] = nR mk (l.take (i + 1)) (ps ++ [p]) := by
 unfold nR
 rw [dN h, List.zipWith_append (by rw [List.length_take]; omega)]; rfl
section
variable {G : World -> Prop}
theorem iY (hst : az G) (lo : Nat) (l : List aa) (hb : l.length <= 1048576 /\ ∀ y ∈ l, aa.small 1048576 y) : CtM Tryz.prog G 141 [.sl lo 3 (l.map (aa.tw lo))] [] (fun y : (Nat × Nat) × List (Nat × Nat) => y.2.length = l.length) (fun y => (y.1.1, y.1.2, .row 3 (nR eM l y.2)) :: nO fK l y.2) (fun y => .ms y.1.1 y.1.2 0 l.length) := by
 refine aw Tryz.func141 rfl Tryz.ntmps141 rfl rfl rfl fun w0 R gs objsR hG hR => ?_
 obtain rfl := hR.inv0
 clear hR
 have hlen := aa.len lo l
 have hl1 := hb.1
 repeat' (first | refine W_ ?_ | (refine la ?_; intro ss bb))
 generalize ss = so; generalize bb = bo
 apply ak (X := Nat × Nat × List (Nat × Nat)) [7, 8, 1000000] (fun x => [(9, .int .i64 (x.1 : Int)), (3, .ms so x.2.1 0 x.1)]) (fun x => (so, x.2.1, .row 3 (nR eM (l.take x.1) x.2.2)) :: (nO fK (l.take x.1) x.2.2 ++ R)) (fun x => x.1 <= l.length /\ x.2.2.length = x.1) (fun x => l.length - x.1) (0, bo, []) ⟨Nat.zero_le _, rfl⟩
 exact kp_; exact nw_
 ·exact .refl _
 rintro ⟨i, bo, ps⟩ ⟨hi, hps⟩
 dsimp only at hi hps |-
 by_cases hlt : i < l.length
 ·have hrs := fun p => rh eM hlt hps p
  have hos := fun p => lB fK hlt hps p
  have hra : (l.map (aa.tw lo))[i]? = some (l[i].tw lo) := aK hlt
  have hrl : (nR eM (l.take i) ps).length = i := by rw [pV _ (by rw [List.length_take]; omega), List.length_take]; omega
  have hbi := hb.2 _ (List.getElem_mem hlt)
  generalize l[i] = x at hrs hos hra hbi
  rw [show x.tw lo = [.str x.name, .int .i64 x.parent, .sl lo 1 (bN x.fields)] from rfl] at hra
  have hsl := bT x.fields
  have hf := hbi.2.1
  generalize nO fK (l.take i) ps = T at hos |-
  repeat' (first | refine W_ ?_ | (refine am ?_; intro ss bb) | refine ac ?_ | ((with_reducible apply mB (n := 0)); rfl; rfl; kernel_rfl; kernel_rfl; rfl; kernel_rfl; rfl; rfl; rfl; rfl; intro ss bb) | refine dS ?_ | ((with_reducible apply dW); rfl; rfl; rfl; kernel_rfl; (repeat (first | with_reducible exact mh | with_reducible refine mt ?_)); (first | with_reducible assumption | exact aF _ | exact ai _ | exact aE _ | exact List.length_map _ | assumption | rfl); omega; (intro bq; (repeat (first | with_reducible exact Upd.head _ | with_reducible apply Upd.tail))); intro bb) | ((with_reducible apply er); rfl; rfl; rfl; kernel_rfl; (repeat (first | with_reducible exact mh | with_reducible refine mt ?_)); exact hrl; (first | (show List.length _ = 1; rfl) | (show List.length _ = 2; rfl) | (show List.length _ = 0; rfl) | (show List.length _ = 3; rfl) | (first | with_reducible assumption | exact aF _ | exact ai _ | exact aE _ | exact List.length_map _ | assumption | rfl)); omega; exact hrs (_, _); (intro bq; (repeat (first | with_reducible exact Upd.head _ | with_reducible apply Upd.tail))); intro bb))
  rename_i s5 b5 _ bx
  generalize ss = sx
  refine vU (objs' := (sx, bx, .row 1 (bN x.fields)) :: (so, bb, .row 3 (nR eM (l.take (i + 1)) (ps ++ [(sx, bx)]))) :: (T ++ R)) pk_ ?_
  refine ag (i + 1, bb, ps ++ [(sx, bx)]) ⟨by dsimp only; omega, by dsimp only; simp [hps]⟩ (by dsimp only; omega) (.of _ nw_ od_ ?_)
  dsimp only
  rw [hos (sx, bx)]
  exact lc _ _ T R
 ·obtain rfl : i = l.length := by omega
  rw [List.take_of_length_le (Nat.le_refl _)]
  repeat' refine W_ ?_
  exact av x_ rfl ((so, bo), ps) hps rfl (.cons _ _ _ _ (.app _ R)) (.refl _) (.tmp _ _ rfl) rfl
end
theorem ro {α β γ : Type} {f : α -> β -> γ} {l : List α} {ps : List β} {z : γ} (h : z ∈ List.zipWith f l ps) : ∃ x p, f x p = z /\ ∀ {δ : Type} (g : α -> β -> δ), g x p ∈ List.zipWith g l ps := by
 induction l generalizing ps with
 | nil => simp at h
 | cons a l ih =>
   cases ps with
   | nil => simp at h
   | cons q ps =>
     rw [List.zipWith_cons_cons, List.mem_cons] at h
     rcases h with rfl | h
     ·exact ⟨a, q, rfl, fun g => by rw [List.zipWith_cons_cons]; exact List.mem_cons_self⟩
     ·obtain ⟨x, p, h1, h2⟩ := ih h
      exact ⟨x, p, h1, fun g => by rw [List.zipWith_cons_cons]; exact List.mem_cons_of_mem _ (h2 g)⟩
theorem iz {α : Type} {mk : α -> Nat × Nat -> List TV} {ob : α -> aW} {m s b n : Nat} (hmk : ∀ x p objs, (p.1, p.2, ob x) ∈ objs -> ∀ t ∈ mk x p, dE objs t) (hob : ∀ x objs, ck objs (ob x)) (l : List α) (ps : List (Nat × Nat)) :
   (∀ s' b' o, (s', b', o) ∈ (s, b, aW.row m (nR mk l ps)) :: nO ob l ps -> ck ((s, b, aW.row m (nR mk l ps)) :: nO ob l ps) o) /\ dE ((s, b, aW.row m (nR mk l ps)) :: nO ob l ps) (.ms s b 0 n) := by
 refine ⟨fun s' b' o h => ?_, .ms _ _ _ _ _ _ List.mem_cons_self⟩
 rcases List.mem_cons.1 h with h | h
 ·simp only [Prod.mk.injEq] at h
  obtain ⟨_, _, rfl⟩ := h
  intro t ht
  obtain ⟨r, hr, htr⟩ := List.mem_flatten.1 ht
  obtain ⟨x, p, rfl, hg⟩ := ro hr
  exact hmk x p _ (List.mem_cons_of_mem _ (hg fun x p => (p.1, p.2, ob x))) t htr
 ·obtain ⟨x, p, he, _⟩ := ro h
  simp only [Prod.mk.injEq] at he
  obtain ⟨_, _, rfl⟩ := he
  exact hob x _
theorem gL (x : aa) (p : Nat × Nat) (objs : aG) (h : (p.1, p.2, fK x) ∈ objs) : ∀ t ∈ eM x p, dE objs t := fun t ht => by
 simp only [eM, List.mem_cons, List.not_mem_nil, or_false] at ht
 rcases ht with rfl | rfl | rfl
 ·exact .flat _ rfl
 ·exact .flat _ rfl
 ·exact .ms _ _ _ _ _ _ h
theorem gV (x : aa) (objs : aG) : ck objs (fK x) := ff (ue _)
theorem xI (a b z : Nat × Nat × aW) (T R : aG) : cG (a :: b :: ((T ++ [z]) ++ R)) (z :: a :: b :: (T ++ R)) := .perm (by
 have h : ((T ++ [z]) ++ R).Perm (z :: (T ++ R)) := by
   rw [List.append_assoc]
   exact List.perm_middle
 exact ((h.cons b).cons a).trans (((List.Perm.swap z b _).cons a).trans (List.Perm.swap z a _)))
theorem adE (a e z2 z3 : Nat × Nat × aW) (C A R : aG) : cG (z2 :: z3 :: a :: (A ++ (e :: (C ++ R)))) (z3 :: a :: (A ++ (e :: (C ++ (z2 :: R))))) := .perm (by
 have h : ((z3 :: a :: A) ++ (e :: C) ++ z2 :: R).Perm (z2 :: ((z3 :: a :: A) ++ (e :: C) ++ R)) := List.perm_middle
 simpa using h.symm)
theorem ve (a e : Nat × Nat × aW) (C A R : aG) : ((C ++ ((a :: A) ++ [e])) ++ R).Perm (a :: (A ++ (e :: (C ++ R)))) := by
 rw [List.append_assoc, List.append_assoc]
 refine (List.perm_append_comm_assoc C (a :: A) ([e] ++ R)).trans ?_
 exact List.Perm.append_left (a :: A) (List.perm_append_comm_assoc C [e] R)
section
variable {G : World -> Prop}
theorem mH (hst : az G) (lo : Nat) (x : aD) (hb : x.small 1048576) : CtM Tryz.prog G 140 [.agg (x.tw lo)] [] (cbI x) (cbO x) (fun y => .agg (cbC x y)) := by
 refine aw Tryz.func140 rfl Tryz.ntmps140 rfl rfl rfl fun w0 R gs objsR hG hR => ?_
 obtain rfl := hR.inv0
 clear hR
 have c1 := iY hst lo x.classes hb.1
 have n1 := fun (y : (Nat × Nat) × List (Nat × Nat)) (_ : y.2.length = x.classes.length) => iz (m := 3) (s := y.1.1) (b := y.1.2) (n := x.classes.length) gL gV x.classes y.2
 have hel := aA.len lo x.entries
 have he1 := hb.2.2.1
 unfold aD.tw
 repeat' (first | refine W_ ?_ | refine aM ?_ | (refine am ?_; intro ss bb) | ((with_reducible apply fe (id := 1) 11); kernel_rfl; kernel_rfl; kernel_rfl; rfl; (repeat (first | exact Cut.zero _ | apply Cut.succ))) | ((with_reducible apply m_q); exact ym_; rfl; exact iK) | ((with_reducible apply eg); rfl; (intro p; try dsimp only); (repeat (first | exact TB.nil _ | ((with_reducible apply TB.cons); rfl; rfl; (first | exact .nil _ | exact .put _ _ _ _ _ (.nil _) | exact .skip _ _ _ _ _ (.put _ _ _ _ _ (.nil _)) | exact .skip _ _ _ _ _ (.skip _ _ _ _ _ (.put _ _ _ _ _ (.nil _))) | (repeat (first | exact .nil _ | apply bz.put | apply bz.skip))); kernel_rfl))); rfl; kernel_rfl; kernel_rfl; exact iK) | ((with_reducible apply jY); rfl; rfl; kernel_rfl) | ((with_reducible apply uj); (intro p; rfl); rfl; kernel_rfl; kernel_rfl; rfl; kernel_rfl; rfl; rfl; rfl; rfl) | ((with_reducible apply lT); (intro p; rfl); (intro p; rfl); rfl; kernel_rfl; (intro p; rfl); (first | with_reducible assumption | exact aF _ | exact ai _ | exact aE _ | exact List.length_map _ | assumption | rfl); omega; exact ⟨by decide, ah_⟩; rfl; (focus (simp; done))) | ((with_reducible apply ja hG hst c1); rfl; kernel_rfl; (intro p; (repeat (first | exact bV.nil | ((with_reducible apply bV.cons); rfl; exact .same _)))); exact n1) | (with_reducible refine DM.nil _ _ _ ?_))
 generalize ss = s2; generalize bb = b2
 intro p hp
 simp only [List.forall_mem_cons] at hp
 obtain ⟨_, _, _, hI, _⟩ := hp
 refine eO (objs' := ((p 10).a, (p 10).b, .box [.nils, .nils, .nils, .int .i64 0]) :: ((p 3).a, (p 6).b, .row 4 (x.entries.map (aA.tw lo))) :: (sa x.classes (Enc.dec (p 2)) ++ ((s2, b2, .box [.nils, .nils, .nils, .int .i64 0]) :: R))) (by rw [show gB _ = [_, _, _] from rfl]; simp only [List.flatMap_cons, List.flatMap_nil, List.append_nil, List.append_assoc, List.cons_append, List.nil_append]; rfl) ?_
 dsimp only [Nat.reduceAdd] at hI |-
 generalize (Enc.dec (p 2) : (Nat × Nat) × List (Nat × Nat)) = yc at hI |-
 generalize Yu.a (p 10) = s3
 generalize Yu.b (p 10) = b3
 generalize Yu.a (p 3) = se
 generalize Yu.b (p 6) = be
 have hcl := aC.len lo x.codes
 have hc1 := hb.2.1.1
 have hsm := hb.2.1.2
 repeat' (first | refine W_ ?_ | refine ac ?_)
 refine oE 1 4 (by decide) rfl fun sc => ?_
 obtain ⟨RR, hRR⟩ : ∃ RR : aG, RR = ((se, be, .row 4 (x.entries.map (aA.tw 0))) :: (sa x.classes yc ++ ((s2, b2, aW.box [.nils, .nils, .nils, .int .i64 0]) :: R))) := ⟨_, rfl⟩
 refine bH (objs' := (s3, b3, .box [.ms yc.1.1 yc.1.2 0 x.classes.length, .ms sc 0 0 0, .ms se be 0 x.entries.length, .int .i64 x.main]) :: (sc, 0, .row 4 []) :: RR) (by rw [hRR]; exact .refl _) ?_
 apply ak (X := Nat × Nat × List (Nat × Nat)) [2, 3, 17, 18, 1000000] (fun y => [(19, .int .i64 (y.1 : Int))])
   (fun y => (s3, b3, .box [.ms yc.1.1 yc.1.2 0 x.classes.length, .ms sc y.2.1 0 y.1, .ms se be 0 x.entries.length, .int .i64 x.main]) :: (sc, y.2.1, .row 4 (nR eH (x.codes.take y.1) y.2.2)) :: (nO fq (x.codes.take y.1) y.2.2 ++ RR))
   (fun y => y.1 <= x.codes.length /\ y.2.2.length = y.1) (fun y => x.codes.length - y.1) (0, 0, []) ⟨Nat.zero_le _, rfl⟩
 exact kp_; exact nw_
 ·exact .refl _
 rintro ⟨i, bc, ps⟩ ⟨hi, hps⟩
 dsimp only at hi hps |-
 by_cases hlt : i < x.codes.length
 ·have hrs := fun p => rh eH hlt hps p
  have hos := fun p => lB fq hlt hps p
  have hra : (x.codes.map (aC.tw lo))[i]? = some (x.codes[i].tw lo) := aK hlt
  have hrl : (nR eH (x.codes.take i) ps).length = i := by rw [pV _ (by rw [List.length_take]; omega), List.length_take]; omega
  have hbi := hsm _ (List.getElem_mem hlt)
  generalize x.codes[i] = c at hrs hos hra hbi
  have hil : c.instrs.length <= 1048576 := hbi.1
  rw [show c.tw lo = [.bool c.block, .int .i64 c.params, .int .i64 c.slots, .sl lo 4 (c.instrs.map (ah.tw lo))] from rfl] at hra
  generalize nO fq (x.codes.take i) ps = T at hos |-
  repeat' (first | refine W_ ?_ | (refine am ?_; intro ss bb) | refine ac ?_ | ((with_reducible apply mB (n := 0)); rfl; rfl; kernel_rfl; kernel_rfl; rfl; kernel_rfl; rfl; rfl; rfl; rfl; intro ss bb) | refine dS ?_ | ((with_reducible apply dW); rfl; rfl; rfl; kernel_rfl; (repeat (first | with_reducible exact mh | with_reducible refine mt ?_)); (first | with_reducible assumption | exact aF _ | exact ai _ | exact aE _ | exact List.length_map _ | assumption | rfl); omega; (intro bq; (repeat (first | with_reducible exact Upd.head _ | with_reducible apply Upd.tail))); intro bb) | ((with_reducible apply er); rfl; rfl; rfl; kernel_rfl; (repeat (first | with_reducible exact mh | with_reducible refine mt ?_)); exact hrl; (first | (show List.length _ = 1; rfl) | (show List.length _ = 2; rfl) | (show List.length _ = 0; rfl) | (show List.length _ = 3; rfl) | (first | with_reducible assumption | exact aF _ | exact ai _ | exact aE _ | exact List.length_map _ | assumption | rfl)); omega; exact hrs (_, _); (intro bq; (repeat (first | with_reducible exact Upd.head _ | with_reducible apply Upd.tail))); intro bb))
  rename_i s5 b5 _ bx
  generalize ss = sx
  refine vU (objs' := (sx, bx, .row 4 (c.instrs.map (ah.tw 0))) :: (s3, b3, .box [.ms yc.1.1 yc.1.2 0 x.classes.length, .ms sc bb 0 (i + 1), .ms se be 0 x.entries.length, .int .i64 x.main]) :: (sc, bb, .row 4 (nR eH (x.codes.take (i + 1)) (ps ++ [(sx, bx)]))) :: (T ++ RR)) pk_ ?_
  refine ag (i + 1, bb, ps ++ [(sx, bx)]) ⟨by dsimp only; omega, by dsimp only; simp [hps]⟩ (by dsimp only; omega) (.of _ nw_ od_ ?_)
  dsimp only
  rw [hos (sx, bx)]
  exact xI _ _ _ T RR
 ·obtain rfl : i = x.codes.length := by omega
  rw [List.take_of_length_le (Nat.le_refl _), hRR]
  refine bH (adE _ _ _ _ _ _ _) ?_
  repeat' (first | refine W_ ?_ | refine ac ?_)
  exact av (t1 := .agg [.ms yc.1.1 yc.1.2 0 x.classes.length, .ms sc bc 0 x.codes.length, .ms se be 0 x.entries.length, .int .i64 x.main]) x_ rfl (yc, ((sc, bc), ps), (se, be)) ⟨hI, hps⟩ rfl (.app _ R) (.drop (.drop (.perm (ve _ _ _ _ R)))) (.cell _ _ _ _ _ rfl mm_ (by kernel_rfl) (by kernel_rfl) (by kernel_rfl)) rfl
end
section
variable {G : World -> Prop}
theorem gl (hst : az G) (lo : Nat) (l : List aa) (hb : l.length <= 1048576 /\ ∀ y ∈ l, aa.small 1048576 y) : CtM Tryz.prog G 130 [.sl lo 3 (l.map (aa.tw lo))] [] (fun y : (Nat × Nat) × List (Nat × Nat) => y.2.length = l.length) (fun y => (y.1.1, y.1.2, .row 3 (nR eM l y.2)) :: nO fK l y.2) (fun y => .ms y.1.1 y.1.2 0 l.length) := by
 refine aw Tryz.func130 rfl Tryz.ntmps130 rfl rfl rfl fun w0 R gs objsR hG hR => ?_
 obtain rfl := hR.inv0
 clear hR
 have hlen := aa.len lo l
 have hl1 := hb.1
 repeat' (first | refine W_ ?_ | (refine la ?_; intro ss bb))
 generalize ss = so; generalize bb = bo
 apply ak (X := Nat × Nat × List (Nat × Nat)) [0, 1000000] (fun x => [(4, .int .i64 (x.1 : Int)), (3, .ms so x.2.1 0 x.1)]) (fun x => (so, x.2.1, .row 3 (nR eM (l.take x.1) x.2.2)) :: (nO fK (l.take x.1) x.2.2 ++ R)) (fun x => x.1 <= l.length /\ x.2.2.length = x.1) (fun x => l.length - x.1) (0, bo, []) ⟨Nat.zero_le _, rfl⟩
 exact kp_; exact nw_
 ·exact .refl _
 rintro ⟨i, bo, ps⟩ ⟨hi, hps⟩
 dsimp only at hi hps |-
 by_cases hlt : i < l.length
 ·have hrs := fun p => rh eM hlt hps p
  have hos := fun p => lB fK hlt hps p
  have hra : (l.map (aa.tw lo))[i]? = some (l[i].tw lo) := aK hlt
  have hrl : (nR eM (l.take i) ps).length = i := by rw [pV _ (by rw [List.length_take]; omega), List.length_take]; omega
  have hbi := hb.2 _ (List.getElem_mem hlt)
  generalize l[i] = x at hrs hos hra hbi
  rw [show x.tw lo = [.str x.name, .int .i64 x.parent, .sl lo 1 (bN x.fields)] from rfl] at hra
  have hsl := bT x.fields
  have hf := hbi.2.1
  generalize nO fK (l.take i) ps = T at hos |-
  repeat' (first | refine W_ ?_ | ((with_reducible apply fe (id := 5) 20); kernel_rfl; kernel_rfl; kernel_rfl; rfl; (repeat (first | exact Cut.zero _ | apply Cut.succ))) | ((with_reducible apply m_q); exact ym_; rfl; exact iK) | ((with_reducible apply eg); rfl; (intro p; try dsimp only); (repeat (first | exact TB.nil _ | ((with_reducible apply TB.cons); rfl; rfl; (first | exact .nil _ | exact .put _ _ _ _ _ (.nil _) | exact .skip _ _ _ _ _ (.put _ _ _ _ _ (.nil _)) | exact .skip _ _ _ _ _ (.skip _ _ _ _ _ (.put _ _ _ _ _ (.nil _))) | (repeat (first | exact .nil _ | apply bz.put | apply bz.skip))); kernel_rfl))); rfl; kernel_rfl; kernel_rfl; exact iK) | ((with_reducible apply lT); (intro p; rfl); (intro p; rfl); rfl; kernel_rfl; (intro p; rfl); (first | with_reducible assumption | exact aF _ | exact ai _ | exact aE _ | exact List.length_map _ | assumption | rfl); omega; exact ⟨by decide, ah_⟩; rfl; (focus (simp; done))) | ((with_reducible apply uj (n := 0)); (intro p; rfl); rfl; kernel_rfl; kernel_rfl; rfl; kernel_rfl; rfl; rfl; rfl; rfl) | ((with_reducible apply qj); (intro p; rfl); rfl; kernel_rfl; kernel_rfl; rfl; kernel_rfl; rfl; (intro p; rfl); rfl; (intro p; rfl); exact iK) | (with_reducible refine DM.nil _ _ _ ?_))
  intro p hp
  refine eO (objs' := ((p 11).a, (p 17).b, .row 1 (bN x.fields)) :: (so, bo, .row 3 (nR eM (l.take i) ps)) :: (T ++ R)) (by rw [show gB _ = [_] from rfl]; simp only [List.flatMap_cons, List.flatMap_nil, List.append_nil, List.append_assoc, List.cons_append, List.nil_append]; (try rfl)) ?_
  dsimp only [Nat.reduceAdd]
  generalize Yu.a (p 11) = sx
  generalize Yu.b (p 17) = bx
  repeat' (first | refine W_ ?_ | ((with_reducible apply er); rfl; rfl; rfl; kernel_rfl; (repeat (first | with_reducible exact mh | with_reducible refine mt ?_)); exact hrl; (first | (show List.length _ = 1; rfl) | (show List.length _ = 2; rfl) | (show List.length _ = 0; rfl) | (show List.length _ = 3; rfl) | (first | with_reducible assumption | exact aF _ | exact ai _ | exact aE _ | exact List.length_map _ | assumption | rfl)); omega; exact hrs (_, _); (intro bq; (repeat (first | with_reducible exact Upd.head _ | with_reducible apply Upd.tail))); intro bb))
  refine ag (i + 1, bb, ps ++ [(sx, bx)]) ⟨by dsimp only; omega, by dsimp only; simp [hps]⟩ (by dsimp only; omega) (.of _ nw_ od_ ?_)
  dsimp only
  rw [hos (sx, bx)]
  exact lc _ _ T R
 ·obtain rfl : i = l.length := by omega
  rw [List.take_of_length_le (Nat.le_refl _)]
  repeat' refine W_ ?_
  exact av x_ rfl ((so, bo), ps) hps rfl (.cons _ _ _ _ (.app _ R)) (.refl _) (.tmp _ _ rfl) rfl
theorem uL (hst : az G) (lo : Nat) (x : aC) (hb : x.small 1048576) : CtM Tryz.prog G 207 [.agg [.bool x.block, .int .i64 x.params, .int .i64 x.slots, .sl lo 4 (x.instrs.map (ah.tw lo))]] [] (fun _ : Nat × Nat => True) (fun y => [(y.1, y.2, fq x)]) (fun y => .agg (eH x y)) := by
 refine aw Tryz.func207 rfl Tryz.ntmps207 rfl rfl rfl fun w0 R gs objsR hG hR => ?_
 obtain rfl := hR.inv0
 clear hR
 have hil : x.instrs.length <= 1048576 := hb.1
 repeat' (first | refine W_ ?_ | refine aM ?_ | (refine am ?_; intro ss bb) | ((with_reducible apply fe (id := 1) 11); kernel_rfl; kernel_rfl; kernel_rfl; rfl; (repeat (first | exact Cut.zero _ | apply Cut.succ))) | ((with_reducible apply m_q); exact ym_; rfl; exact iK) | ((with_reducible apply eg); rfl; (intro p; try dsimp only); (repeat (first | exact TB.nil _ | ((with_reducible apply TB.cons); rfl; rfl; (first | exact .nil _ | exact .put _ _ _ _ _ (.nil _) | exact .skip _ _ _ _ _ (.put _ _ _ _ _ (.nil _)) | exact .skip _ _ _ _ _ (.skip _ _ _ _ _ (.put _ _ _ _ _ (.nil _))) | (repeat (first | exact .nil _ | apply bz.put | apply bz.skip))); kernel_rfl))); rfl; kernel_rfl; kernel_rfl; exact iK) | ((with_reducible apply uj); (intro p; rfl); rfl; kernel_rfl; kernel_rfl; rfl; kernel_rfl; rfl; rfl; rfl; rfl) | ((with_reducible apply lT); (intro p; rfl); (intro p; rfl); rfl; kernel_rfl; (intro p; rfl); (first | with_reducible assumption | exact aF _ | exact ai _ | exact aE _ | exact List.length_map _ | assumption | rfl); omega; exact ⟨by decide, ah_⟩; rfl; (focus (simp; done))) | (with_reducible refine DM.nil _ _ _ ?_))
 generalize ss = s2; generalize bb = b2
 intro p hp
 refine eO (objs' := ((p 6).a, (p 9).b, .row 4 (x.instrs.map (ah.tw 0))) :: (s2, b2, .box [.bool false, .int .i64 0, .int .i64 0, .nils]) :: R) (by rw [show gB _ = [_] from rfl]; simp only [List.flatMap_cons, List.flatMap_nil, List.append_nil, List.append_assoc, List.cons_append, List.nil_append]; (try rfl)) ?_
 dsimp only [Nat.reduceAdd]
 generalize Yu.a (p 6) = sx
 generalize Yu.b (p 9) = bx
 repeat' (first | refine W_ ?_ | refine ac ?_)
 exact av (t1 := .agg [.bool x.block, .int .i64 x.params, .int .i64 x.slots, .ms sx bx 0 x.instrs.length]) x_ rfl (sx, bx) trivial rfl (.cons _ _ _ _ (.nil R)) pk_ (.cell _ _ _ _ _ rfl mm_ (by kernel_rfl) (by kernel_rfl) (by kernel_rfl)) rfl
end
theorem aao (x : aC) (y : Nat × Nat) : (∀ s b o, (s, b, o) ∈ [(y.1, y.2, fq x)] -> ck [(y.1, y.2, fq x)] o) /\ dE [(y.1, y.2, fq x)] (.agg (eH x y)) := by
 refine ⟨fun s b o h => ?_, .agg _ fun t ht => ?_⟩
 ·simp only [List.mem_singleton, Prod.mk.injEq] at h
  obtain ⟨_, _, rfl⟩ := h
  refine ff fun t ht => ?_
  obtain ⟨r, hr, htr⟩ := List.mem_flatten.1 ht
  obtain ⟨i, _, rfl⟩ := List.mem_map.1 hr
  simp only [ah.tw, List.mem_cons, List.not_mem_nil, or_false] at htr
  rcases htr with rfl | rfl | rfl | rfl <;> rfl
 ·simp only [eH, List.mem_cons, List.not_mem_nil, or_false] at ht
  rcases ht with rfl | rfl | rfl | rfl
  ·exact .flat _ rfl
  ·exact .flat _ rfl
  ·exact .flat _ rfl
  ·exact .ms _ _ _ _ _ _ List.mem_cons_self
theorem yN (a b z : Nat × Nat × aW) (T R : aG) : cG (a :: b :: ((T ++ [z]) ++ R)) (a :: z :: b :: (T ++ R)) := .perm (by
 have h : ((T ++ [z]) ++ R).Perm (z :: (T ++ R)) := by
   rw [List.append_assoc]
   exact List.perm_middle
 exact (((h.cons b).trans (List.Perm.swap z b _)).cons a))
theorem abg (a e z2 z3 : Nat × Nat × aW) (C A R : aG) : cG (z2 :: z3 :: a :: (A ++ (e :: (C ++ R)))) (a :: z3 :: (A ++ (e :: (C ++ (z2 :: R))))) := .perm (by
 have h : ((z3 :: a :: A) ++ (e :: C) ++ z2 :: R).Perm (z2 :: ((z3 :: a :: A) ++ (e :: C) ++ R)) := List.perm_middle
 exact .trans (by simpa using h.symm) (List.Perm.swap a z3 _))
section
variable {G : World -> Prop}
theorem vR (hst : az G) (f lo : Nat) (x : aD) (hb : x.small 1048576) : CtM Tryz.prog G 129 [.cp f (x.tw lo)] [] (cbI x) (cbO x) (fun y => .agg (cbC x y)) := by
 refine aw Tryz.func129 rfl Tryz.ntmps129 rfl rfl rfl fun w0 R gs objsR hG hR => ?_
 obtain rfl := hR.inv0
 clear hR
 have c1 := gl hst lo x.classes hb.1
 have n1 := fun (y : (Nat × Nat) × List (Nat × Nat)) (_ : y.2.length = x.classes.length) => iz (m := 3) (s := y.1.1) (b := y.1.2) (n := x.classes.length) gL gV x.classes y.2
 have hel := aA.len lo x.entries
 have he1 := hb.2.2.1
 unfold aD.tw
 repeat' (first | refine W_ ?_ | (refine am ?_; intro ss bb) | ((with_reducible apply fe (id := 1) 17); kernel_rfl; kernel_rfl; kernel_rfl; rfl; (repeat (first | exact Cut.zero _ | apply Cut.succ))) | ((with_reducible apply m_q); exact ym_; rfl; exact iK) | ((with_reducible apply eg); rfl; (intro p; try dsimp only); (repeat (first | exact TB.nil _ | ((with_reducible apply TB.cons); rfl; rfl; (first | exact .nil _ | exact .put _ _ _ _ _ (.nil _) | exact .skip _ _ _ _ _ (.put _ _ _ _ _ (.nil _)) | exact .skip _ _ _ _ _ (.skip _ _ _ _ _ (.put _ _ _ _ _ (.nil _))) | (repeat (first | exact .nil _ | apply bz.put | apply bz.skip))); kernel_rfl))); rfl; kernel_rfl; kernel_rfl; exact iK) | ((with_reducible apply jY); rfl; rfl; kernel_rfl) | ((with_reducible apply uj); (intro p; rfl); rfl; kernel_rfl; kernel_rfl; rfl; kernel_rfl; rfl; rfl; rfl; rfl) | ((with_reducible apply lT); (intro p; rfl); (intro p; rfl); rfl; kernel_rfl; (intro p; rfl); (first | with_reducible assumption | exact aF _ | exact ai _ | exact aE _ | exact List.length_map _ | assumption | rfl); omega; exact ⟨by decide, ah_⟩; rfl; (focus (simp; done))) | ((with_reducible apply ja hG hst c1); rfl; kernel_rfl; (intro p; (repeat (first | exact bV.nil | ((with_reducible apply bV.cons); rfl; exact .same _)))); exact n1) | (with_reducible refine DM.nil _ _ _ ?_))
 generalize ss = s2; generalize bb = b2
 intro p hp
 simp only [List.forall_mem_cons] at hp
 obtain ⟨_, _, _, hI, _⟩ := hp
 refine eO (objs' := ((p 16).a, (p 16).b, .box [.nils, .nils, .nils, .int .i64 0]) :: ((p 5).a, (p 10).b, .row 4 (x.entries.map (aA.tw lo))) :: (sa x.classes (Enc.dec (p 4)) ++ ((s2, b2, .box [.nils, .nils, .nils, .int .i64 0]) :: R))) (by rw [show gB _ = [_, _, _] from rfl]; simp only [List.flatMap_cons, List.flatMap_nil, List.append_nil, List.append_assoc, List.cons_append, List.nil_append]; (try rfl)) ?_
 dsimp only [Nat.reduceAdd] at hI |-
 generalize (Enc.dec (p 4) : (Nat × Nat) × List (Nat × Nat)) = yc at hI |-
 generalize Yu.a (p 16) = s3
 generalize Yu.b (p 16) = b3
 generalize Yu.a (p 5) = se
 generalize Yu.b (p 10) = be
 have hcl := aC.len lo x.codes
 have hc1 := hb.2.1.1
 have hsm := hb.2.1.2
 repeat' (first | refine W_ ?_ | refine ac ?_)
 refine oE 1 4 (by decide) rfl fun sc => ?_
 obtain ⟨RR, hRR⟩ : ∃ RR : aG, RR = ((se, be, .row 4 (x.entries.map (aA.tw 0))) :: (sa x.classes yc ++ ((s2, b2, aW.box [.nils, .nils, .nils, .int .i64 0]) :: R))) := ⟨_, rfl⟩
 refine bH (objs' := (sc, 0, .row 4 []) :: (s3, b3, .box [.ms yc.1.1 yc.1.2 0 x.classes.length, .ms sc 0 0 0, .ms se be 0 x.entries.length, .int .i64 x.main]) :: RR) (by rw [hRR]; exact pk_) ?_
 apply ak (X := Nat × Nat × List (Nat × Nat)) [0, 2, 3, 1000000] (fun y => [(4, .int .i64 (y.1 : Int))])
   (fun y => (sc, y.2.1, .row 4 (nR eH (x.codes.take y.1) y.2.2)) :: (s3, b3, .box [.ms yc.1.1 yc.1.2 0 x.classes.length, .ms sc y.2.1 0 y.1, .ms se be 0 x.entries.length, .int .i64 x.main]) :: (nO fq (x.codes.take y.1) y.2.2 ++ RR))
   (fun y => y.1 <= x.codes.length /\ y.2.2.length = y.1) (fun y => x.codes.length - y.1) (0, 0, []) ⟨Nat.zero_le _, rfl⟩
 exact kp_; exact nw_
 ·exact .refl _
 rintro ⟨i, bc, ps⟩ ⟨hi, hps⟩
 dsimp only at hi hps |-
 by_cases hlt : i < x.codes.length
 ·have hrs := fun p => rh eH hlt hps p
  have hos := fun p => lB fq hlt hps p
  have hra : (x.codes.map (aC.tw lo))[i]? = some (x.codes[i].tw lo) := aK hlt
  have hrl : (nR eH (x.codes.take i) ps).length = i := by rw [pV _ (by rw [List.length_take]; omega), List.length_take]; omega
  have hbi := hsm _ (List.getElem_mem hlt)
  generalize x.codes[i] = c at hrs hos hra hbi
  have hil : c.instrs.length <= 1048576 := hbi.1
  rw [show c.tw lo = [.bool c.block, .int .i64 c.params, .int .i64 c.slots, .sl lo 4 (c.instrs.map (ah.tw lo))] from rfl] at hra
  have c2 := uL hst lo c hbi
  have n2 := fun (y : Nat × Nat) (_ : True) => aao c y
  generalize nO fq (x.codes.take i) ps = T at hos |-
  repeat' (first | refine W_ ?_ | ((with_reducible apply ky (id := 5) 13); kernel_rfl; kernel_rfl; kernel_rfl; rfl; (repeat (first | exact Cut.zero _ | apply Cut.succ))) | ((with_reducible apply m_q); exact ym_; rfl; exact iK) | ((with_reducible apply eg); rfl; (intro p; try dsimp only); (repeat (first | exact TB.nil _ | ((with_reducible apply TB.cons); rfl; rfl; (first | exact .nil _ | exact .put _ _ _ _ _ (.nil _) | exact .skip _ _ _ _ _ (.put _ _ _ _ _ (.nil _)) | exact .skip _ _ _ _ _ (.skip _ _ _ _ _ (.put _ _ _ _ _ (.nil _))) | (repeat (first | exact .nil _ | apply bz.put | apply bz.skip))); kernel_rfl))); rfl; kernel_rfl; kernel_rfl; exact iK) | ((with_reducible apply qj); (intro p; rfl); rfl; kernel_rfl; kernel_rfl; rfl; kernel_rfl; rfl; (intro p; rfl); rfl; (intro p; rfl); exact iK) | ((with_reducible apply ja hG hst c2); rfl; kernel_rfl; (intro p; (repeat (first | exact bV.nil | ((with_reducible apply bV.cons); rfl; exact .same _)))); exact n2) | ((with_reducible apply tV); (intro p; rfl); (intro p; rfl); rfl; kernel_rfl; (intro p; rfl); exact hrl; (intro p; show List.length _ = 1; rfl); omega; exact fun p => hrs (Enc.dec (p _)); exact ⟨by decide, by decide⟩; exact aaQ; rfl; (focus (simp; done))) | (with_reducible refine DM.nil _ _ _ ?_))
  intro p hp
  refine eO (objs' := (sc, (p 11).b, .row 4 (nR eH (x.codes.take (i + 1)) (ps ++ [Enc.dec (p 9)]))) :: ((Enc.dec (p 9) : Nat × Nat).1, (Enc.dec (p 9) : Nat × Nat).2, fq c) :: (s3, b3, .box [.ms yc.1.1 yc.1.2 0 x.classes.length, .ms sc bc 0 i, .ms se be 0 x.entries.length, .int .i64 x.main]) :: (T ++ RR)) (by rw [show gB _ = [_, _] from rfl]; (try simp only [List.flatMap_cons, List.flatMap_nil, List.append_nil, List.append_assoc, List.cons_append, List.nil_append]); (try rfl)) ?_
  dsimp only [Nat.reduceAdd] at hp |-
  generalize (Enc.dec (p 9) : Nat × Nat) = q
  generalize Yu.b (p 11) = bb
  repeat' (first | refine W_ ?_ | refine ac ?_)
  refine ag (i + 1, bb, ps ++ [q]) ⟨by dsimp only; omega, by dsimp only; simp [hps]⟩ (by dsimp only; omega) (.of _ nw_ od_ ?_)
  dsimp only
  rw [hos q]
  exact yN _ _ _ T RR
 ·obtain rfl : i = x.codes.length := by omega
  rw [List.take_of_length_le (Nat.le_refl _), hRR]
  refine bH (abg _ _ _ _ _ _ _) ?_
  repeat' (first | refine W_ ?_ | refine ac ?_)
  exact av (t1 := .agg [.ms yc.1.1 yc.1.2 0 x.classes.length, .ms sc bc 0 x.codes.length, .ms se be 0 x.entries.length, .int .i64 x.main]) x_ rfl (yc, ((sc, bc), ps), (se, be)) ⟨hI, hps⟩ rfl (.app _ R) (.drop (.drop (.perm (ve _ _ _ _ R)))) (.cell _ _ _ _ _ rfl mm_ (by kernel_rfl) (by kernel_rfl) (by kernel_rfl)) rfl
end
def rJ (objs : aG) (l l' : List TV) : Prop := l'.length = l.length /\ ∀ (j : Nat) (t t' : TV), l[j]? = some t -> l'[j]? = some t' -> bW objs t t'
theorem rJ.nil {objs : aG} : rJ objs [] [] := ⟨rfl, by simp⟩
theorem rJ.cons {objs : aG} {t t' : TV} {l l' : List TV} (h : bW objs t t') (hr : rJ objs l l') : rJ objs (t :: l) (t' :: l') := ⟨by simp [hr.1], fun j u u' h1 h2 => by
 cases j with
 | zero => simp at h1 h2; subst h1; subst h2; exact h
 | succ j => exact hr.2 j u u' (by simpa using h1) (by simpa using h2)⟩
theorem rJ.append {objs : aG} {a a' b b' : List TV} (h : rJ objs a a') (k : rJ objs b b') : rJ objs (a ++ b) (a' ++ b') := ⟨by simp [h.1, k.1], fun j u u' h1 h2 => by
 by_cases hj : j < a.length
 ·rw [List.getElem?_append_left hj] at h1
  rw [List.getElem?_append_left (by rw [h.1]; exact hj)] at h2
  exact h.2 j u u' h1 h2
 ·rw [List.getElem?_append_right (by omega)] at h1
  rw [List.getElem?_append_right (by rw [h.1]; omega)] at h2
  rw [h.1] at h2
  exact k.2 _ u u' h1 h2⟩
section
variable {G : World -> Prop}
theorem ld (hst : az G) (lo : Nat) (l : List ByteArray) (k : Int) (hn : l.length <= 1048576) (hk : 0 <= k /\ k <= 1000000000000000) : Ct Tryz.prog G 29 [.sl lo 1 (bN (mkL cY bm k l)), .int .i64 k] (fun _ => .int .i64 (kL bm k l)) := by
 refine aq Tryz.func29 rfl Tryz.ntmps29 rfl rfl fun w0 _ hG => ?_
 have hrl : (bN (mkL cY bm k l)).length = l.length := by simp [bN, bX]
 have hget := fun i (h : i < l.length) => fY (mk := cY) (nx := bm) (k := k) h
 have hgr : ∀ i (h : i < l.length), (bN (mkL cY bm k l))[i]? = some [.str (dL (kL bm k (l.take i)))] := fun i h => by
   simp only [bN, List.getElem?_map, hget i h]; rfl
 generalize bN (mkL cY bm k l) = rows at hrl hgr |-
 repeat' refine W_ ?_
 apply ak (X := Nat) [0] (fun x => [(5, .int .i64 (x : Int)), (1, .int .i64 (kL bm k (l.take x)))]) (fun _ => []) (fun x => x <= l.length) (fun x => l.length - x) 0 (Nat.zero_le _)
 exact kp_; exact nw_
 ·exact .refl _
 intro i hi
 try dsimp only
 have hq := aZ (k := k) (i := i) hn (eU l) hi
 by_cases hlt : i < l.length
 ·have hrow := hgr i hlt
  have hks : kL bm k (l.take (i + 1)) = kL bm k (l.take i) + 1 := cI hlt
  generalize kL bm k (l.take i) = q at hq hrow hks |-
  have hs0 : ¬ dL (q) ≠ dL (q) := fun h => h rfl
  have hm0 := bP (G := G) (q) (by omega) (by omega)
  repeat' (first | refine V_ ?_ | refine ae hG hst (hm0) ?_)
  all_goals first
    | exact ag (i + 1) (by omega) (by omega) (.of _ (cE.envCons rfl (cE.envCons (dG rfl (by rw [hks])) cE.envNil)) od_ pk_)
    | (exfalso; simp_all; done)
 ·obtain rfl : i = l.length := by omega
  rw [List.take_length]
  repeat' refine W_ ?_
  exact r1_
theorem tE (hst : az G) (lo : Nat) (l : List ah) (k : Int) (hn : l.length <= 1048576) (hk : 0 <= k /\ k <= 1000000000000000) : Ct Tryz.prog G 226 [.sl lo 4 ((mkL ef bC k l).map (ah.tw lo)), .int .i64 k] (fun _ => .int .i64 (kL bC k l)) := by
 refine aq Tryz.func226 rfl Tryz.ntmps226 rfl rfl fun w0 _ hG => ?_
 have hrl : ((mkL ef bC k l).map (ah.tw lo)).length = l.length := by simp [bN, bX]
 have hget := fun i (h : i < l.length) => fY (mk := ef) (nx := bC) (k := k) h
 have hgr : ∀ i (h : i < l.length), ((mkL ef bC k l).map (ah.tw lo))[i]? = some [.int .i64 (kL bC k (l.take i)), .int .i64 (kL bC k (l.take i) + 1), .int .i64 (kL bC k (l.take i) + 1 + 1), .str (dL (kL bC k (l.take i) + 1 + 1 + 1))] := fun i h => by
   simp only [bN, List.getElem?_map, hget i h]; rfl
 generalize (mkL ef bC k l).map (ah.tw lo) = rows at hrl hgr |-
 repeat' refine W_ ?_
 apply ak (X := Nat) [0] (fun x => [(5, .int .i64 (x : Int)), (1, .int .i64 (kL bC k (l.take x)))]) (fun _ => []) (fun x => x <= l.length) (fun x => l.length - x) 0 (Nat.zero_le _)
 exact kp_; exact nw_
 ·exact .refl _
 intro i hi
 try dsimp only
 have hq := aZ (k := k) (i := i) hn (ju l) hi
 by_cases hlt : i < l.length
 ·have hrow := hgr i hlt
  have hks : kL bC k (l.take (i + 1)) = kL bC k (l.take i) + 1 + 1 + 1 + 1 := cI hlt
  generalize kL bC k (l.take i) = q at hq hrow hks |-
  have hi0 : ¬ (q) ≠ (q) := fun h => h rfl
  have hi1 : ¬ (q + 1) ≠ (q + 1) := fun h => h rfl
  have hi2 : ¬ (q + 1 + 1) ≠ (q + 1 + 1) := fun h => h rfl
  have hs3 : ¬ dL (q + 1 + 1 + 1) ≠ dL (q + 1 + 1 + 1) := fun h => h rfl
  have hm3 := bP (G := G) (q + 1 + 1 + 1) (by omega) (by omega)
  repeat' (first | refine V_ ?_ | refine ae hG hst (hm3) ?_)
  all_goals first
    | exact ag (i + 1) (by omega) (by omega) (.of _ (cE.envCons rfl (cE.envCons (dG rfl (by rw [hks])) cE.envNil)) od_ pk_)
    | (exfalso; simp_all; done)
 ·obtain rfl : i = l.length := by omega
  rw [List.take_length]
  repeat' refine W_ ?_
  exact r1_
theorem tK (hst : az G) (lo : Nat) (l : List aA) (k : Int) (hn : l.length <= 1048576) (hk : 0 <= k /\ k <= 1000000000000000) : Ct Tryz.prog G 154 [.sl lo 4 ((mkL eG bJ k l).map (aA.tw lo)), .int .i64 k] (fun _ => .int .i64 (kL bJ k l)) := by
 refine aq Tryz.func154 rfl Tryz.ntmps154 rfl rfl fun w0 _ hG => ?_
 have hrl : ((mkL eG bJ k l).map (aA.tw lo)).length = l.length := by simp [bN, bX]
 have hget := fun i (h : i < l.length) => fY (mk := eG) (nx := bJ) (k := k) h
 have hgr : ∀ i (h : i < l.length), ((mkL eG bJ k l).map (aA.tw lo))[i]? = some [.int .i64 (kL bJ k (l.take i)), .bool (decide ((kL bJ k (l.take i) + 1).tmod 3 = 0)), .str (dL (kL bJ k (l.take i) + 1 + 1)), .int .i64 (kL bJ k (l.take i) + 1 + 1 + 1)] := fun i h => by
   simp only [bN, List.getElem?_map, hget i h]; rfl
 generalize (mkL eG bJ k l).map (aA.tw lo) = rows at hrl hgr |-
 repeat' refine W_ ?_
 apply ak (X := Nat) [0] (fun x => [(5, .int .i64 (x : Int)), (1, .int .i64 (kL bJ k (l.take x)))]) (fun _ => []) (fun x => x <= l.length) (fun x => l.length - x) 0 (Nat.zero_le _)
 exact kp_; exact nw_
 ·exact .refl _
 intro i hi
 try dsimp only
 have hq := aZ (k := k) (i := i) hn (jw l) hi
 by_cases hlt : i < l.length
 ·have hrow := hgr i hlt
  have hks : kL bJ k (l.take (i + 1)) = kL bJ k (l.take i) + 1 + 1 + 1 + 1 := cI hlt
  generalize kL bJ k (l.take i) = q at hq hrow hks |-
  have hi0 : ¬ (q) ≠ (q) := fun h => h rfl
  have hb1 : (decide ((q + 1).tmod 3 = 0) != decide ((q + 1).tmod 3 = 0)) = false := by simp
  have hs2 : ¬ dL (q + 1 + 1) ≠ dL (q + 1 + 1) := fun h => h rfl
  have hm2 := bP (G := G) (q + 1 + 1) (by omega) (by omega)
  have hi3 : ¬ (q + 1 + 1 + 1) ≠ (q + 1 + 1 + 1) := fun h => h rfl
  repeat' (first | refine V_ ?_ | refine ae hG hst (hm2) ?_ | refine c_ (fun hc => ?_) (fun hc => ?_))
  all_goals first
    | exact ag (i + 1) (by omega) (by omega) (.of _ (cE.envCons rfl (cE.envCons (dG rfl (by rw [hks])) cE.envNil)) od_ pk_)
    | (exfalso; simp_all; done)
 ·obtain rfl : i = l.length := by omega
  rw [List.take_length]
  repeat' refine W_ ?_
  exact r1_
theorem iH (hst : az G) (lo : Nat) (l : List aa) (k : Int) (hn : l.length <= 1048576 /\ ∀ y ∈ l, aa.small 1048576 y) (hk : 0 <= k /\ k <= 100000000000000) : Ct Tryz.prog G 152 [.sl lo 3 ((mkL aY ay k l).map (aa.tw lo)), .int .i64 k] (fun _ => .int .i64 (kL ay k l)) := by
 refine aq Tryz.func152 rfl Tryz.ntmps152 rfl rfl fun w0 _ hG => ?_
 obtain ⟨hn, hsm⟩ := hn
 have hrl : ((mkL aY ay k l).map (aa.tw lo)).length = l.length := by simp [bX]
 have hgr : ∀ i (h : i < l.length), ((mkL aY ay k l).map (aa.tw lo))[i]? = some ((aY (kL ay k (l.take i)) l[i]).tw lo) := fun i h => by
   simp only [List.getElem?_map, fY (mk := aY) (nx := ay) (k := k) h]; rfl
 generalize (mkL aY ay k l).map (aa.tw lo) = rows at hrl hgr |-
 repeat' refine W_ ?_
 apply ak (X := Nat) [0] (fun x => [(5, .int .i64 (x : Int)), (1, .int .i64 (kL ay k (l.take x)))]) (fun _ => []) (fun x => x <= l.length) (fun x => l.length - x) 0 (Nat.zero_le _)
 exact kp_; exact nw_
 ·exact .refl _
 intro i hi
 try dsimp only
 have hq := aZ (k := k) (i := i) hn (co hsm) hi
 by_cases hlt : i < l.length
 ·have hrow := hgr i hlt
  have hks := cI (nx := ay) (k := k) hlt
  have hb := hsm _ (List.getElem_mem hlt)
  generalize kL ay k (l.take i) = q at hq hrow hks |-
  generalize l[i] = x at hrow hks hb
  replace hrow : rows[i]? = some [.str (dL (q)), .int .i64 (q + 1), .sl lo 1 (bN (mkL cY bm (q + 1 + 1) x.fields))] := hrow
  have hin := ld hst lo x.fields (q + 1 + 1) hb.2.1 (by omega)
  have hinr := gK (nx := bm) (l := x.fields) (k := q + 1 + 1) (eU _)
  have hks2 : kL ay k (l.take (i + 1)) = kL bm (q + 1 + 1) x.fields := hks
  have hs0 : ¬ dL (q) ≠ dL (q) := fun h => h rfl
  have hm0 := bP (G := G) (q) (by omega) (by omega)
  have hi1 : ¬ (q + 1) ≠ (q + 1) := fun h => h rfl
  repeat' (first | refine V_ ?_ | refine ad hG hst (hin) ?_ | refine ae hG hst (hm0) ?_)
  all_goals first
    | exact ag (i + 1) (by omega) (by omega) (.of _ (cE.envCons rfl (cE.envCons (dG rfl (by rw [hks2])) cE.envNil)) od_ pk_)
    | (exfalso; simp_all; done)
    | (exfalso; omega)
 ·obtain rfl : i = l.length := by omega
  rw [List.take_length]
  repeat' refine W_ ?_
  exact r1_
theorem vg (hst : az G) (lo : Nat) (l : List aC) (k : Int) (hn : l.length <= 1048576 /\ ∀ y ∈ l, aC.small 1048576 y) (hk : 0 <= k /\ k <= 100000000000000) : Ct Tryz.prog G 153 [.sl lo 4 ((mkL dH bR k l).map (aC.tw lo)), .int .i64 k] (fun _ => .int .i64 (kL bR k l)) := by
 refine aq Tryz.func153 rfl Tryz.ntmps153 rfl rfl fun w0 _ hG => ?_
 obtain ⟨hn, hsm⟩ := hn
 have hrl : ((mkL dH bR k l).map (aC.tw lo)).length = l.length := by simp [bX]
 have hgr : ∀ i (h : i < l.length), ((mkL dH bR k l).map (aC.tw lo))[i]? = some ((dH (kL bR k (l.take i)) l[i]).tw lo) := fun i h => by
   simp only [List.getElem?_map, fY (mk := dH) (nx := bR) (k := k) h]; rfl
 generalize (mkL dH bR k l).map (aC.tw lo) = rows at hrl hgr |-
 repeat' refine W_ ?_
 apply ak (X := Nat) [0] (fun x => [(5, .int .i64 (x : Int)), (1, .int .i64 (kL bR k (l.take x)))]) (fun _ => []) (fun x => x <= l.length) (fun x => l.length - x) 0 (Nat.zero_le _)
 exact kp_; exact nw_
 ·exact .refl _
 intro i hi
 try dsimp only
 have hq := aZ (k := k) (i := i) hn (i7 hsm) hi
 by_cases hlt : i < l.length
 ·have hrow := hgr i hlt
  have hks := cI (nx := bR) (k := k) hlt
  have hb := hsm _ (List.getElem_mem hlt)
  generalize kL bR k (l.take i) = q at hq hrow hks |-
  generalize l[i] = x at hrow hks hb
  replace hrow : rows[i]? = some [.bool (decide ((q).tmod 3 = 0)), .int .i64 (q + 1), .int .i64 (q + 1 + 1), .sl lo 4 ((mkL ef bC (q + 1 + 1 + 1) x.instrs).map (ah.tw lo))] := hrow
  have hin := tE hst lo x.instrs (q + 1 + 1 + 1) hb.1 (by omega)
  have hinr := gK (nx := bC) (l := x.instrs) (k := q + 1 + 1 + 1) (ju _)
  have hks2 : kL bR k (l.take (i + 1)) = kL bC (q + 1 + 1 + 1) x.instrs := hks
  have hb0 : (decide ((q).tmod 3 = 0) != decide ((q).tmod 3 = 0)) = false := by simp
  have hi1 : ¬ (q + 1) ≠ (q + 1) := fun h => h rfl
  have hi2 : ¬ (q + 1 + 1) ≠ (q + 1 + 1) := fun h => h rfl
  repeat' (first | refine V_ ?_ | refine ad hG hst (hin) ?_ | refine c_ (fun hc => ?_) (fun hc => ?_))
  all_goals first
    | exact ag (i + 1) (by omega) (by omega) (.of _ (cE.envCons rfl (cE.envCons (dG rfl (by rw [hks2])) cE.envNil)) od_ pk_)
    | (exfalso; simp_all; done)
    | (exfalso; omega)
 ·obtain rfl : i = l.length := by omega
  rw [List.take_length]
  repeat' refine W_ ?_
  exact r1_
theorem o5 (hst : az G) (lo : Nat) (x : aD) (hb : x.small 1048576) (k : Int) (hk : 0 <= k /\ k <= 50000000000000) : Ct Tryz.prog G 72 [.agg ((cJ k x).tw lo), .int .i64 k] (fun _ => .int .i64 (ba k x)) := by
 refine aq Tryz.func72 rfl Tryz.ntmps72 rfl rfl fun w0 _ hG => ?_
 have h1 := aZ (k := k) (i := x.classes.length) hb.1.1 (co hb.1.2) (Nat.le_refl _)
 have h2 := aZ (k := kL ay k x.classes) (i := x.codes.length) hb.2.1.1 (i7 hb.2.1.2) (Nat.le_refl _)
 have h3 := aZ (k := kL bR (kL ay k x.classes) x.codes) (i := x.entries.length) hb.2.2.1 (jw x.entries) (Nat.le_refl _)
 rw [List.take_length] at h1 h2 h3
 have c1 := iH hst lo x.classes k hb.1 (by omega)
 have c2 := vg hst lo x.codes (kL ay k x.classes) hb.2.1 (by omega)
 have c3 := tK hst lo x.entries (kL bR (kL ay k x.classes) x.codes) hb.2.2.1 (by omega)
 unfold aD.tw cJ ba
 dsimp only
 repeat' (first | refine W_ ?_ | refine aM ?_ | refine ad hG hst (c1) ?_ | refine ad hG hst (c2) ?_ | refine ad hG hst (c3) ?_)
 exact r1_
end
end Go.Proofs.YtiihihgjiklnoaaGreatDoor
