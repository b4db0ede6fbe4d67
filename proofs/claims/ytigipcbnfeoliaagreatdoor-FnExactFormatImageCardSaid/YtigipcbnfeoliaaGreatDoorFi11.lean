/- Part 11 of the proof: the texts SdD, SdE, MkN, MkC, MkH, MkV, CpA, CpB, CpC, CpD. -/
import Derived.Test.YtigipcbnfeoliaaGreatDoorFi3
import Derived.Test.YtigipcbnfeoliaaGreatDoorFi7
import Derived.Test.YtigipcbnfeoliaaGreatDoorFi6
import Derived.Test.YtigipcbnfeoliaaGreatDoorFi8
import Derived.Test.YtigipcbnfeoliaaGreatDoorFi10
set_option linter.all false
set_option maxHeartbeats 2000000
set_option maxRecDepth 20000
namespace Go.Proofs.YtigipcbnfeoliaaGreatDoor
open Go Go.RowKit
theorem tF {G : World -> Prop} (hst : aC G) (hca : ∀ s : ByteArray, s.size <= 1048576 -> Ct Tryz.prog G 219 [.str s] (fun _ => .int .i64 (bW s.data.toList))) (op a b : Int) (t : ByteArray) (hs : t.size <= 1048576) (hop : inR op 1 26 = true) : Ct Tryz.prog G 268 [.agg [.int .i64 op, .int .i64 a, .int .i64 b, .str t]] (fun _ => .tup [.int .i64 (ag.eff ⟨op, a, b, t⟩).1, .int .i64 (ag.eff ⟨op, a, b, t⟩).2]) := by
 refine aq Tryz.func268 rfl Tryz.ntmps268 rfl rfl fun w0 _ hG => ?_
 have h1 := ru t.data.toList
 have h2 := si t.data.toList
 simp only [inR, decide_eq_true_eq] at hop
 repeat' (first | refine W_ ?_ | refine aJ ?_ | refine ac hG hst (hca _ hs) ?_ | refine c_ (fun hc => ?_) (fun hc => ?_))
 all_goals
   clear hst
   have he : ag.eff ⟨op, a, b, t⟩ = ag.eff ⟨op, a, b, t⟩ := rfl
   conv at he => rhs; unfold ag.eff
   dsimp only at he
   rw [he]
   refine ei x_ rfl (.tmp _ _ rfl) (.tmp _ _ rfl) (fun _ => ?_) (fun _ => ?_)
   all_goals
     refine aav ?_
     first
       | (subst hc; simp; done)
       | (have h3 : op = 20 \/ op = 23 := by omega
          rcases h3 with rfl | rfl <;> simp; done)
       | (have h3 : ¬ (op = 20 \/ op = 23) := by omega
          simp [*]; done)
       | (simp [*]; done)
def plR (l : List (Int × Int)) : List (List TV) := l.map fun x => [.int .i64 x.1, .int .i64 x.2]
theorem aec {B L : Nat} {objs : aF} {l : List (Int × Int)} (h : l = []) : Fin B objs L .nils (.sl L 2 (plR l)) := by subst h; exact .nils _
theorem zS {B L : Nat} {objs : aF} {l : List (Int × Int)} {rows : List (List TV)} (h : rows = plR l) : Fin B objs L (.sl B 2 rows) (.sl L 2 (plR l)) := by
 subst h
 refine Fin.slFlat (Nat.le_refl _) fun t ht => ?_
 obtain ⟨r, hr, htr⟩ := List.mem_flatten.1 ht
 obtain ⟨x, _, rfl⟩ := List.mem_map.1 hr
 simp at htr
 rcases htr with rfl | rfl <;> rfl
theorem adM {G : World -> Prop} (hst : aC G) (hca : ∀ s : ByteArray, s.size <= 1048576 -> Ct Tryz.prog G 219 [.str s] (fun _ => .int .i64 (bW s.data.toList))) (op a b : Int) (t : ByteArray) (p : Nat) (d : Int) (hs : t.size <= 1048576) (hop : inR op 1 26 = true) (hp : p <= 1048576) (hd : 0 <= d /\ d <= 250) :
   Ct Tryz.prog G 269 [.agg [.int .i64 op, .int .i64 a, .int .i64 b, .str t], .int .i64 (p : Int), .int .i64 d] (fun L => .sl L 2 (plR (ag.nexts ⟨op, a, b, t⟩ p d))) := by
 refine aq Tryz.func269 rfl Tryz.ntmps269 rfl rfl fun w0 _ hG => ?_
 have hef := tF hst hca op a b t hs hop
 have her := iW ⟨op, a, b, t⟩
 have hnx : ag.nexts ⟨op, a, b, t⟩ p d = ag.nexts ⟨op, a, b, t⟩ p d := rfl
 conv at hnx => rhs; unfold ag.nexts
 dsimp only at hnx
 rw [hnx]
 generalize (ag.eff ⟨op, a, b, t⟩).1 = e1 at *
 generalize (ag.eff ⟨op, a, b, t⟩).2 = e2 at *
 simp only [inR, decide_eq_true_eq] at hop
 repeat' (first | refine W_ ?_ | refine aJ ?_ | refine ch ?_ | refine j6 ?_ | refine ac hG hst (hef) ?_ | refine c_ (fun hc => ?_) (fun hc => ?_))
 all_goals
   clear hst hca hef her hnx
   refine aD x_ rfl (.tmp _ _ rfl) (fun _ => ?_)
   first
     | (refine aec ?_; simp [*]; done)
     | (refine zS ?_; simp [plR, *]; done)
     | (refine zS ?_; have h3 : ¬ (op = 21 \/ op = 22) := by omega
        simp [plR, *]; done)
     | (refine zS ?_; have h3 : ¬ (op = 21 \/ op = 22) := by omega
        have h4 : ¬ (op = 24 \/ op = 25) := by omega
        simp [plR, *]; done)
def cF (op : Int) : List Nat := if op = 20 then [1] else if op = 21 \/ op = 22 then [1, 2] else if op = 24 \/ op = 25 \/ op = 26 then [2] else []
def wP (op : Int) (s b : Nat) : List (List TV) := (cF op).map fun o => [.mp s b o]
theorem adP (op a b : Int) (t : ByteArray) : ag.labs ⟨op, a, b, t⟩ = (cF op).map fun o => if o = 1 then a else b := by
 unfold ag.labs cF
 dsimp only
 repeat' split
 all_goals simp
theorem od {G : World -> Prop} (s9 b9 : Nat) (op a b : Int) (t : ByteArray) : CtM Tryz.prog G 267 [.mp s9 b9 0] [(s9, b9, .box [.int .i64 op, .int .i64 a, .int .i64 b, .str t])] (fun _ : Nat × Nat => True)
   (fun y => [(y.1, y.2, .row 1 (wP op s9 b9)), (s9, b9, .box [.int .i64 op, .int .i64 a, .int .i64 b, .str t])]) (fun y => .ms y.1 y.2 0 (wP op s9 b9).length) := by
 have hcase : (op = 20 /\ wP op s9 b9 = [[.mp s9 b9 1]]) \/ ((op = 21 \/ op = 22) /\ wP op s9 b9 = [[.mp s9 b9 1], [.mp s9 b9 2]]) \/ ((op = 24 \/ op = 25 \/ op = 26) /\ wP op s9 b9 = [[.mp s9 b9 2]]) \/ (¬ op = 20 /\ ¬ op = 21 /\ ¬ op = 22 /\ ¬ op = 24 /\ ¬ op = 25 /\ ¬ op = 26 /\ wP op s9 b9 = []) := by
   unfold wP cF
   by_cases h20 : op = 20
   ·exact .inl ⟨h20, by simp [h20]⟩
   by_cases h21 : op = 21 \/ op = 22
   ·exact .inr (.inl ⟨h21, by simp [h20, h21]⟩)
   by_cases h24 : op = 24 \/ op = 25 \/ op = 26
   ·exact .inr (.inr (.inl ⟨h24, by simp [h20, h21, h24]⟩))
   ·exact .inr (.inr (.inr ⟨h20, by omega, by omega, by omega, by omega, by omega, by simp [h20, h21, h24]⟩))
 rcases hcase with ⟨h1, hr⟩ | ⟨h1, hr⟩ | ⟨h1, hr⟩ | ⟨h1, h2, h3, h4, h5, h6, hr⟩
 all_goals
   rw [hr]
   refine aB Tryz.func267 rfl Tryz.ntmps267 rfl rfl rfl fun w0 R gs objsR hG hR => ?_
   obtain rfl := hR.inv1
   repeat' (first | refine W_ ?_ | (refine la ?_; intro ss bb) | (with_reducible apply dP (id := 6) 6; kernel_rfl; kernel_rfl; kernel_rfl; (repeat (first | exact Cut.zero _ | apply Cut.succ))) | with_reducible refine dV (by kernel_rfl) (by kernel_rfl) ?_ | with_reducible refine fO ?_ | with_reducible refine d7 ?_ | with_reducible refine dW rfl ?_ | refine fT rfl rfl rfl rr_ ?_ | refine dX rfl rfl rfl rr_ rfl rfl rfl ?_ | refine cT rfl rfl rfl rr_ rfl rfl ?_ | (refine jX rfl rfl rfl rr_ dd_ ?_) | (refine j2 rfl rfl rfl rr_ dd_ ?_) | (refine ce rfl rfl rfl rr_ (fun hg => ?_) (fun hg => ?_)) | (refine bR rfl rfl rfl rr_ (fun hg => ?_) (fun hg => ?_)) | ((with_reducible apply d_y); exact y_; rfl) | refine c_ (fun hc => ?_) (fun hc => ?_))
 all_goals first
   | (refine az x_ rfl (ss, bb) trivial rfl (.cons _ _ _ _ (.cons _ _ _ _ (.nil R))) pk_ (.tmp _ _ rfl) rfl; done)
   | (refine ek 2 1 (by omega) rfl fun ss => az x_ rfl (ss, 0) trivial rfl (.cons _ _ _ _ (.cons _ _ _ _ (.nil R))) pk_ (.tmp _ _ rfl) rfl; done)
section
variable {w0 w w' : World} {objs : aF} {ss b : Nat} {ob : bv}
theorem tY (hw : dC w0 objs w) (hbel : Below w.heap.size w w') (hb : w.heap.size <= b) : mX w objs w' ((ss, b, ob) :: objs) := by
 have hk : ∀ k, k < w.heap.size -> w'.heap[k]? = w.heap[k]? := fun k hk => hbel.block k hk
 have hpos : 0 < w.heap.size := Nat.lt_of_lt_of_le hw.pos hw.below.size
 refine ⟨fun k h _ => hk k h, fun k h ha => ⟨ha.1, ?_⟩, fun s k m rows h _ hm => ?_, hbel.size, fun hm => ?_⟩
 ·obtain ⟨s, o, hm⟩ := ha.2
  rcases List.mem_cons.1 hm with he | hm
  ·simp only [Prod.mk.injEq] at he; omega
  ·exact ⟨s, o, hm⟩
 ·rcases List.mem_cons.1 hm with he | hm
  ·simp only [Prod.mk.injEq] at he; omega
  ·exact ⟨⟨rows, hm⟩, gH (hk k h)⟩
 ·rcases List.mem_cons.1 hm with he | hm
  ·simp only [dK, Prod.mk.injEq] at he; omega
  ·exact hm
theorem dC.newB (hw : dC w0 objs w) (hbel : Below w.heap.size w w') (hb : w.heap.size <= b) (hs : ∀ x ∈ objs, x.1 ≠ ss) (ho : sM w' w0.heap.size ((ss, b, ob) :: objs) b ob) : dC w0 ((ss, b, ob) :: objs) w' :=
 ⟨hw.below.trans (hbel.mono hw.below.size), hw.pos, fun s k o hm => by
   rcases List.mem_cons.1 hm with he | hm
   ·simp only [Prod.mk.injEq] at he; obtain ⟨rfl, rfl, rfl⟩ := he; exact ho
   ·exact (hw.obj s k o hm).step (tY hw hbel hb) (hbel.block k (dl hw hm)),
 List.pairwise_cons.2 ⟨fun y hy => ⟨fun e => hs y hy e.symm, .inl (by have := dl (s := y.1) (b := y.2.1) (ob := y.2.2) hw hy; simp only; omega)⟩, hw.sites⟩⟩
end
theorem x9 {w : World} {B b n : Nat} {objs : aF} (hB : B <= b) (hn : n <= 1048576) (x : Int) (hb : Blk w b 3 (List.replicate n (Value.int .i64 x)).toArray) : sM w B objs b (.row 1 (aR (List.replicate n x))) := by
 refine ⟨⟨by omega, fun t ht => by have := kK _ t ht; cases t <;> first | rfl | cases this⟩, fun r hr => ?_, .inr ⟨hB, _, _, n, hb, by simp, by simp [aR], by simp [maxLen]; omega, fun j t hj => ?_⟩⟩
 ·obtain ⟨y, _, rfl⟩ := List.mem_map.1 hr; rfl
 ·rw [mO, List.getElem?_map, Option.map_eq_some_iff] at hj
  obtain ⟨y, hy, rfl⟩ := hj
  obtain rfl := List.eq_of_mem_replicate (List.mem_of_getElem? hy)
  have hlt : j < n := by simpa using (List.getElem?_eq_some_iff.1 hy).1
  exact ⟨_, by simp [hlt], .int _ _⟩
theorem tP {G : World -> Prop} (lo n : Nat) (hn0 : 1 <= n) (hn : n <= 1048576) : CtM Tryz.prog G 224 [.sl lo 1 [[.int .i64 (-1)]], .int .i64 n] [] (fun _ : Nat × Nat => True) (fun y => [(y.1, y.2, .row 1 (aR (List.replicate n (-1))))]) (fun y => .ms y.1 y.2 0 n) := fun w0 w R gs vs hG hw hgs hsz hrep => by
 simp only [List.nil_append] at hw hgs hrep
 obtain ⟨v1, v2, rfl⟩ : ∃ v1 v2, vs = #[v1, v2] := by
   match vs, hsz with
   | ⟨[v1, v2]⟩, _ => exact ⟨v1, v2, rfl⟩
 have h1 := hrep 0 _ v1 rfl rfl
 have h2 := (hrep 1 _ v2 rfl rfl).int_inv
 subst h2
 obtain ⟨A, c, rfl, _, _, _, _, h3⟩ := jH h1
 obtain ⟨b, q, u, rfl, _, h5, h6⟩ := h3 0 (.int .i64 (-1)) rfl
 rw [h6.int_inv] at h5
 refine (yt b q c n w (by simpa using h5) hn0 hn).mono ?_
 rintro e w' ⟨rfl, hbel, hblk⟩
 obtain ⟨ss, hss⟩ := ga R
 have hwB : w0.heap.size <= w.heap.size := hw.below.size
 have hst := tY (ss := ss) (ob := .row 1 (aR (List.replicate n (-1)))) hw hbel (Nat.le_refl _)
 have hlt : w.heap.size < w'.heap.size := hblk.lt
 have hb0 : w.heap.size ≠ 0 := Nat.ne_of_gt (Nat.lt_of_lt_of_le hw.pos hwB)
 have hw' := hw.newB (ss := ss) hbel (Nat.le_refl _) hss (x9 (w := w') hwB hn (-1) hblk)
 refine ⟨_, (ss, w.heap.size), rfl, trivial, hw', hgs.step hst, .ms _ _ _ _ _ (.mk ⟨hlt, hw'.noMark, _, _, rfl⟩ (fun m rows hm => .inr ⟨hb0, 0, n, 3, n * 1, rfl, Nat.le_refl _, ?_, ?_, fun _ => by simp⟩) (fun h0 => absurd h0 hb0))⟩
 ·unfold World.shape?; rw [hblk]; simp
 ·rcases List.mem_cons.1 hm with he | hm
  ·simp only [Prod.mk.injEq, bv.row.injEq] at he; rw [he.2.2.1]; simp
  ·exact absurd (dl hw hm) (Nat.lt_irrefl _)
def mkL {α : Type} (mk : Int -> α -> α) (nx : Int -> α -> Int) : Int -> List α -> List α
 | _, [] => []
 | k, x :: r => mk k x :: mkL mk nx (nx k x) r
def kL {α : Type} (nx : Int -> α -> Int) (k : Int) (l : List α) : Int := l.foldl nx k
def ptL {α : Type} (mk : Int -> α -> α) (nx : Int -> α -> Int) (k : Int) (l : List α) (i : Nat) : List α := mkL mk nx k (l.take i) ++ l.drop i
section
variable {α : Type} {mk : Int -> α -> α} {nx : Int -> α -> Int}
theorem dn : ∀ (k : Int) (l : List α), (mkL mk nx k l).length = l.length
 | _, [] => rfl
 | k, x :: r => by simp [mkL, dn (nx k x) r]
theorem ws : ∀ (k : Int) (a b : List α), mkL mk nx k (a ++ b) = mkL mk nx k a ++ mkL mk nx (kL nx k a) b
 | _, [], b => rfl
 | k, x :: r, b => by
   show mk k x :: mkL mk nx (nx k x) (r ++ b) = mk k x :: (mkL mk nx (nx k x) r ++ mkL mk nx (kL nx (nx k x) r) b)
   rw [ws]
theorem fq {k : Int} {l : List α} {i : Nat} (h : i < l.length) : kL nx k (l.take (i + 1)) = nx (kL nx k (l.take i)) l[i] := by
 rw [eo h]
 unfold kL
 rw [List.foldl_append]; rfl
theorem cS {k : Int} {l : List α} {i : Nat} (h : i <= l.length) : (ptL mk nx k l i).length = l.length := by
 unfold ptL
 rw [List.length_append, dn, List.length_take, List.length_drop]; omega
theorem dT {k : Int} {l : List α} {i : Nat} (h : i < l.length) : (ptL mk nx k l i)[i]? = some l[i] := by
 unfold ptL
 rw [List.getElem?_append_right (by rw [dn, List.length_take]; omega), dn, List.length_take, show i - min i l.length = 0 by omega, List.drop_eq_getElem_cons h]; rfl
theorem fN {k : Int} {l : List α} {i : Nat} (h : i < l.length) : (ptL mk nx k l i).set i (mk (kL nx k (l.take i)) l[i]) = ptL mk nx k l (i + 1) := by
 unfold ptL
 rw [List.set_append_right _ _ (by rw [dn, List.length_take]; omega), dn, List.length_take, show i - min i l.length = 0 by omega, List.drop_eq_getElem_cons h, List.set_cons_zero, eo h, ws, List.append_assoc]; rfl
theorem ep (k : Int) (l : List α) : ptL mk nx k l l.length = mkL mk nx k l := by
 unfold ptL
 rw [List.take_length, List.drop_length, List.append_nil]
theorem ads {k : Int} {l : List α} {i : Nat} (h : i < l.length) : (mkL mk nx k l)[i]? = some (mk (kL nx k (l.take i)) l[i]) := by
 conv => lhs; rw [<- List.take_append_drop i l, ws]
 rw [List.getElem?_append_right (by rw [dn, List.length_take]; omega), dn, List.length_take, show i - min i l.length = 0 by omega, List.drop_eq_getElem_cons h]; rfl
theorem kw {c : Nat} : ∀ {l : List α} {k : Int}, (∀ x ∈ l, ∀ q, q <= nx q x /\ nx q x <= q + c) -> k <= kL nx k l /\ kL nx k l <= k + c * l.length
 | [], k, _ => by show k <= k /\ k <= k + _; simp
 | x :: r, k, h => by
   have h1 := h x List.mem_cons_self k
   have h2 := kw (l := r) (k := nx k x) (fun y hy => h y (List.mem_cons_of_mem _ hy))
   have e : kL nx k (x :: r) = kL nx (nx k x) r := rfl
   have e2 : (c : Int) * (((x :: r).length : Nat) : Int) = c * (r.length : Nat) + c := by rw [List.length_cons, Int.natCast_add, Int.mul_add]; simp
   rw [e, e2]
   omega
theorem bQ {c : Nat} {l : List α} {k : Int} {i : Nat} {n : Nat} (hn : l.length <= n) (h : ∀ x ∈ l, ∀ q, q <= nx q x /\ nx q x <= q + c) (hi : i <= l.length) : k <= kL nx k (l.take i) /\ kL nx k (l.take i) <= k + c * n := by
 have h1 := kw (nx := nx) (c := c) (l := l.take i) (k := k) (fun x hx => h x (List.mem_of_mem_take hx))
 have h2 : (l.take i).length <= n := by rw [List.length_take]; omega
 have h3 : (c : Int) * ((l.take i).length : Nat) <= c * n := by exact_mod_cast Nat.mul_le_mul_left c h2
 omega
end
theorem aev {α : Type} (ob : α -> bv) {l : List α} {ps : List (Nat × Nat)} {i : Nat} {p : Nat × Nat} {x : α} (hx : l[i]? = some x) (hp : ps[i]? = some p) : (nO ob l ps)[i]? = some (p.1, p.2, ob x) := by
 unfold nO
 rw [List.getElem?_zipWith, hx, hp]
theorem acX {α : Type} (mk : α -> Nat × Nat -> List TV) {l : List α} {ps : List (Nat × Nat)} {i : Nat} {p : Nat × Nat} {x : α} (hx : l[i]? = some x) (hp : ps[i]? = some p) : (nR mk l ps)[i]? = some (mk x p) := by
 unfold nR
 rw [List.getElem?_zipWith, hx, hp]
theorem nM {α β γ : Type} (f : α -> β -> γ) : ∀ {l : List α} {ps : List β} {i : Nat} {p : β} {x : α}, ps[i]? = some p -> List.zipWith f (l.set i x) ps = (List.zipWith f l ps).set i (f x p)
 | [], _, _, _, _, _ => by simp
 | _ :: _, [], _, _, _, h => by simp at h
 | a :: l, q :: ps, 0, p, x, h => by simp at h; subst h; simp
 | a :: l, q :: ps, i + 1, p, x, h => by
   have := nM f (l := l) (ps := ps) (i := i) (p := p) (x := x) (by simpa using h)
   simp [this]
theorem acN {α : Type} (mk : α -> Nat × Nat -> List TV) {l : List α} {ps : List (Nat × Nat)} {i : Nat} {p : Nat × Nat} {x : α} (hp : ps[i]? = some p) : nR mk (l.set i x) ps = (nR mk l ps).set i (mk x p) := nM mk hp
theorem rh {α : Type} : ∀ {l : List α} {i : Nat} {x : α}, l[i]? = some x -> l.Perm (x :: l.eraseIdx i)
 | [], _, _, h => by simp at h
 | a :: l, 0, x, h => by simp at h; subst h; exact .refl _
 | a :: l, i + 1, x, h => by
   have := rh (l := l) (i := i) (x := x) (by simpa using h)
   exact (this.cons a).trans (.swap x a _)
theorem n6 {α : Type} : ∀ (l : List α) (i : Nat) (x : α), (l.set i x).eraseIdx i = l.eraseIdx i
 | [], _, _ => rfl
 | a :: l, 0, x => rfl
 | a :: l, i + 1, x => by simp [n6 l i x]
theorem zH {α : Type} (ob : α -> bv) {l : List α} {ps : List (Nat × Nat)} {i : Nat} {p : Nat × Nat} {x : α} (hx : l[i]? = some x) (hp : ps[i]? = some p) : (nO ob l ps).Perm ((p.1, p.2, ob x) :: (nO ob l ps).eraseIdx i) := rh (aev ob hx hp)
theorem aes {α : Type} (ob : α -> bv) {l : List α} {ps : List (Nat × Nat)} {i : Nat} {p : Nat × Nat} {x : α} (hl : i < l.length) (hp : ps[i]? = some p) : (nO ob (l.set i x) ps).Perm ((p.1, p.2, ob x) :: (nO ob l ps).eraseIdx i) := by
 have h := zH ob (l := l.set i x) (ps := ps) (i := i) (p := p) (x := x) (by rw [List.getElem?_set_self hl]) hp
 have e : (nO ob (l.set i x) ps).eraseIdx i = (nO ob l ps).eraseIdx i := by
   unfold nO
   rw [nM _ hp, n6]
 rw [e] at h
 exact h
theorem xR {a z : Nat × Nat × bv} {N E : aF} (h : N.Perm (z :: E)) (R : aF) : cZ (z :: a :: (E ++ R)) (a :: (N ++ R)) := .perm (by
 have h1 : (a :: (N ++ R)).Perm (a :: z :: (E ++ R)) := ((h.append_right R)).cons a
 exact (List.Perm.swap a z _).trans h1.symm)
theorem zU {a z : Nat × Nat × bv} {N E : aF} (h : N.Perm (z :: E)) (R : aF) : cZ (a :: (N ++ R)) (z :: a :: (E ++ R)) := .perm (by
 have h1 : (a :: (N ++ R)).Perm (a :: z :: (E ++ R)) := ((h.append_right R)).cons a
 exact h1.trans (List.Perm.swap z a _))
theorem sc (A B C : aF) : cZ (B ++ (A ++ C)) (A ++ (B ++ C)) := .perm (by
 rw [<- List.append_assoc, <- List.append_assoc]
 exact List.perm_append_comm.append_right C)
def cu (k : Int) (_ : ByteArray) : ByteArray := jA k
def aZ (k : Int) (_ : ByteArray) : Int := k + 1
theorem fJ (l : List ByteArray) : ∀ x ∈ l, ∀ q, q <= aZ q x /\ aZ q x <= q + (1 : Nat) := fun x _ q => by unfold aZ; omega
theorem acn (l : List ByteArray) (k : Nat) (s : ByteArray) : (aT l).set k [TV.str s] = aT (l.set k s) := by simp [aT, List.map_set]
def ij (k : Int) (_ : ag) : ag := ⟨k, k + 1, k + 1 + 1, jA (k + 1 + 1 + 1)⟩
def cR (k : Int) (_ : ag) : Int := k + 1 + 1 + 1 + 1
theorem qo (l : List ag) : ∀ x ∈ l, ∀ q, q <= cR q x /\ cR q x <= q + (4 : Nat) := fun x _ q => by unfold cR; omega
def gQ (k : Int) (_ : av) : av := ⟨k, decide ((k + 1).tmod 3 = 0), jA (k + 1 + 1), k + 1 + 1 + 1⟩
def di (k : Int) (_ : av) : Int := k + 1 + 1 + 1 + 1
theorem qq (l : List av) : ∀ x ∈ l, ∀ q, q <= di q x /\ di q x <= q + (4 : Nat) := fun x _ q => by unfold di; omega
def br (k : Int) (x : aa) : aa := ⟨jA (k), k + 1, mkL cu aZ (k + 1 + 1) x.fields⟩
def aH (k : Int) (x : aa) : Int := kL aZ (k + 1 + 1) x.fields
theorem dL {l : List aa} (h : ∀ y ∈ l, aa.small 1048576 y) : ∀ x ∈ l, ∀ q, q <= aH q x /\ aH q x <= q + (1048578 : Nat) := fun x hx q => by
 have h1 := h x hx
 have h2 := h1.2.1
 have h3 := kw (nx := aZ) (l := x.fields) (k := q + 1 + 1) (fJ _)
 unfold aH
 omega
def fk (k : Int) (x : aw) : aw := ⟨decide ((k).tmod 3 = 0), k + 1, k + 1 + 1, mkL ij cR (k + 1 + 1 + 1) x.instrs⟩
def cP (k : Int) (x : aw) : Int := kL cR (k + 1 + 1 + 1) x.instrs
theorem oH {l : List aw} (h : ∀ y ∈ l, aw.small 1048576 y) : ∀ x ∈ l, ∀ q, q <= cP q x /\ cP q x <= q + (4194307 : Nat) := fun x hx q => by
 have h1 := h x hx
 have h2 := h1.1
 have h3 := kw (nx := cR) (l := x.instrs) (k := q + 1 + 1 + 1) (qo _)
 unfold cP
 omega
section
variable {G : World -> Prop}
theorem iE (hst : aC G) (s b : Nat) (l : List ByteArray) (k : Int) (hn : l.length <= 1099600000000) (hk : 0 <= k /\ k <= 1000000000000000) : CtM Tryz.prog G 18 [.ms s b 0 l.length, .int .i64 k] [(s, b, .row 1 (aT (l)))] (fun _ : Unit => True) (fun _ => [(s, b, .row 1 (aT (mkL cu aZ k l)))]) (fun _ => .int .i64 (kL aZ k l)) := by
 refine aB Tryz.func18 rfl Tryz.ntmps18 rfl rfl rfl fun w0 R gs objsR hG hR => ?_
 obtain rfl := hR.inv1
 clear hR
 repeat' refine W_ ?_
 apply ai (X := Nat) [0, 1000000] (fun x => [(5, .int .i64 (x : Int)), (1, .int .i64 (kL aZ k (l.take x)))]) (fun x => (s, b, .row 1 (aT (ptL cu aZ k l x))) :: R) (fun x => x <= l.length) (fun x => l.length - x) 0 (Nat.zero_le _)
 exact kp_; exact nw_
 ·exact .refl _
 intro i hi
 try dsimp only
 have hq := bQ (k := k) (i := i) hn (fJ l) hi
 by_cases hlt : i < l.length
 ·have hrow : (aT (ptL cu aZ k l i))[i]? = some ((fun s : ByteArray => [TV.str s]) l[i]) := by
    simp only [aT, List.getElem?_map, dT hlt]; rfl
  have hset : (aT (ptL cu aZ k l i)).set i ((fun s : ByteArray => [TV.str s]) (cu (kL aZ k (l.take i)) l[i])) = aT (ptL cu aZ k l (i + 1)) := by
    rw [<- fN hlt, acn]
  have hks := fq (nx := aZ) (k := k) hlt
  have hrl : (aT (ptL cu aZ k l i)).length = l.length := by simp [aT, cS hi]
  generalize aT (ptL cu aZ k l i) = rows at hrow hset hrl |-
  generalize kL aZ k (l.take i) = q at hq hset hks |-
  generalize l[i] = x at hrow hset hks
  replace hrow : rows[i]? = some [.str x] := hrow
  have hks2 : kL aZ k (l.take (i + 1)) = q + 1 := hks
  repeat' (first | refine W_ ?_ | refine bJ ?_ | ((with_reducible apply mD); rfl; kernel_rfl; (repeat (first | exact dg.nil | ((with_reducible apply dg.cons); rfl; exact .same _))); exact hG; exact hst; exact du _ (by omega) (by omega)))
  refine ah (i + 1) (by omega) (by omega) (.of _ (bX.envCons rfl (bX.envCons (gO rfl (by rw [hks2])) bX.envNil)) od_ ?_)
  rw [<- hset]
  (try simp only [List.set_set])
  exact .refl _
 ·obtain rfl : i = l.length := by omega
  rw [ep, List.take_length]
  repeat' refine W_ ?_
  exact az x_ rfl () trivial rfl (.cons _ _ _ _ (.nil R)) pk_ (.tmp _ _ rfl) rfl
theorem iN (hst : aC G) (s b : Nat) (l : List ByteArray) (k : Int) (hn : l.length <= 1048576) (hk : 0 <= k /\ k <= 1000000000000000) : CtM Tryz.prog G 18 [.ms s b 0 l.length, .int .i64 k] [(s, b, .row 1 (aT (l)))] (fun _ : Unit => True) (fun _ => [(s, b, .row 1 (aT (mkL cu aZ k l)))]) (fun _ => .int .i64 (kL aZ k l)) := iE hst s b l k (by omega) hk
theorem qg (hst : aC G) (s b : Nat) (l : List ag) (k : Int) (hn : l.length <= 1048576) (hk : 0 <= k /\ k <= 1000000000000000) : CtM Tryz.prog G 213 [.ms s b 0 l.length, .int .i64 k] [(s, b, .row 4 ((l).map (ag.tw 0)))] (fun _ : Unit => True) (fun _ => [(s, b, .row 4 ((mkL ij cR k l).map (ag.tw 0)))]) (fun _ => .int .i64 (kL cR k l)) := by
 refine aB Tryz.func213 rfl Tryz.ntmps213 rfl rfl rfl fun w0 R gs objsR hG hR => ?_
 obtain rfl := hR.inv1
 clear hR
 repeat' refine W_ ?_
 apply ai (X := Nat) [0, 1000000] (fun x => [(5, .int .i64 (x : Int)), (1, .int .i64 (kL cR k (l.take x)))]) (fun x => (s, b, .row 4 ((ptL ij cR k l x).map (ag.tw 0))) :: R) (fun x => x <= l.length) (fun x => l.length - x) 0 (Nat.zero_le _)
 exact kp_; exact nw_
 ·exact .refl _
 intro i hi
 try dsimp only
 have hq := bQ (k := k) (i := i) hn (qo l) hi
 by_cases hlt : i < l.length
 ·have hrow : ((ptL ij cR k l i).map (ag.tw 0))[i]? = some ((ag.tw 0) l[i]) := by
    simp only [aT, List.getElem?_map, dT hlt]; rfl
  have hset : ((ptL ij cR k l i).map (ag.tw 0)).set i ((ag.tw 0) (ij (kL cR k (l.take i)) l[i])) = (ptL ij cR k l (i + 1)).map (ag.tw 0) := by
    rw [<- fN hlt, List.map_set]
  have hks := fq (nx := cR) (k := k) hlt
  have hrl : ((ptL ij cR k l i).map (ag.tw 0)).length = l.length := by simp [aT, cS hi]
  generalize (ptL ij cR k l i).map (ag.tw 0) = rows at hrow hset hrl |-
  generalize kL cR k (l.take i) = q at hq hset hks |-
  generalize l[i] = x at hrow hset hks
  replace hrow : rows[i]? = some [.int .i64 x.op, .int .i64 x.a, .int .i64 x.b, .str x.text] := hrow
  have hr1 : (rows.set i [.int .i64 q, .int .i64 x.a, .int .i64 x.b, .str x.text])[i]? = some [.int .i64 q, .int .i64 x.a, .int .i64 x.b, .str x.text] := by rw [List.getElem?_set_self (by omega)]
  have hks2 : kL cR k (l.take (i + 1)) = q + 1 + 1 + 1 + 1 := hks
  repeat' (first | refine W_ ?_ | refine bJ ?_ | ((with_reducible apply mD); rfl; kernel_rfl; (repeat (first | exact dg.nil | ((with_reducible apply dg.cons); rfl; exact .same _))); exact hG; exact hst; exact du _ (by omega) (by omega)))
  refine ah (i + 1) (by omega) (by omega) (.of _ (bX.envCons rfl (bX.envCons (gO rfl (by rw [hks2])) bX.envNil)) od_ ?_)
  rw [<- hset]
  (try simp only [List.set_set])
  exact .refl _
 ·obtain rfl : i = l.length := by omega
  rw [ep, List.take_length]
  repeat' refine W_ ?_
  exact az x_ rfl () trivial rfl (.cons _ _ _ _ (.nil R)) pk_ (.tmp _ _ rfl) rfl
theorem qd (hst : aC G) (s b : Nat) (l : List av) (k : Int) (hn : l.length <= 1048576) (hk : 0 <= k /\ k <= 1000000000000000) : CtM Tryz.prog G 137 [.ms s b 0 l.length, .int .i64 k] [(s, b, .row 4 ((l).map (av.tw 0)))] (fun _ : Unit => True) (fun _ => [(s, b, .row 4 ((mkL gQ di k l).map (av.tw 0)))]) (fun _ => .int .i64 (kL di k l)) := by
 refine aB Tryz.func137 rfl Tryz.ntmps137 rfl rfl rfl fun w0 R gs objsR hG hR => ?_
 obtain rfl := hR.inv1
 clear hR
 repeat' refine W_ ?_
 apply ai (X := Nat) [0, 1000000] (fun x => [(5, .int .i64 (x : Int)), (1, .int .i64 (kL di k (l.take x)))]) (fun x => (s, b, .row 4 ((ptL gQ di k l x).map (av.tw 0))) :: R) (fun x => x <= l.length) (fun x => l.length - x) 0 (Nat.zero_le _)
 exact kp_; exact nw_
 ·exact .refl _
 intro i hi
 try dsimp only
 have hq := bQ (k := k) (i := i) hn (qq l) hi
 by_cases hlt : i < l.length
 ·have hrow : ((ptL gQ di k l i).map (av.tw 0))[i]? = some ((av.tw 0) l[i]) := by
    simp only [aT, List.getElem?_map, dT hlt]; rfl
  have hset : ((ptL gQ di k l i).map (av.tw 0)).set i ((av.tw 0) (gQ (kL di k (l.take i)) l[i])) = (ptL gQ di k l (i + 1)).map (av.tw 0) := by
    rw [<- fN hlt, List.map_set]
  have hks := fq (nx := di) (k := k) hlt
  have hrl : ((ptL gQ di k l i).map (av.tw 0)).length = l.length := by simp [aT, cS hi]
  generalize (ptL gQ di k l i).map (av.tw 0) = rows at hrow hset hrl |-
  generalize kL di k (l.take i) = q at hq hset hks |-
  generalize l[i] = x at hrow hset hks
  replace hrow : rows[i]? = some [.int .i64 x.owner, .bool x.class_, .str x.selector, .int .i64 x.code] := hrow
  have hr1 : (rows.set i [.int .i64 q, .bool x.class_, .str x.selector, .int .i64 x.code])[i]? = some [.int .i64 q, .bool x.class_, .str x.selector, .int .i64 x.code] := by rw [List.getElem?_set_self (by omega)]
  have hks2 : kL di k (l.take (i + 1)) = q + 1 + 1 + 1 + 1 := hks
  repeat' (first | refine W_ ?_ | refine bJ ?_ | ((with_reducible apply mD); rfl; kernel_rfl; (repeat (first | exact dg.nil | ((with_reducible apply dg.cons); rfl; exact .same _))); exact hG; exact hst; exact du _ (by omega) (by omega)))
  refine ah (i + 1) (by omega) (by omega) (.of _ (bX.envCons rfl (bX.envCons (gO rfl (by rw [hks2])) bX.envNil)) od_ ?_)
  rw [<- hset]
  (try simp only [List.set_set])
  exact .refl _
 ·obtain rfl : i = l.length := by omega
  rw [ep, List.take_length]
  repeat' refine W_ ?_
  exact az x_ rfl () trivial rfl (.cons _ _ _ _ (.nil R)) pk_ (.tmp _ _ rfl) rfl
theorem gf (hst : aC G) (s b : Nat) (l : List aa) (ps : List (Nat × Nat)) (hps : ps.length = l.length) (k : Int) (hn : l.length <= 1048576 /\ ∀ y ∈ l, aa.small 1048576 y) (hk : 0 <= k /\ k <= 100000000000000) :
   CtM Tryz.prog G 135 [.ms s b 0 l.length, .int .i64 k] ((s, b, .row 3 (nR jE l ps)) :: nO lQ l ps) (fun _ : Unit => True) (fun _ => (s, b, .row 3 (nR jE (mkL br aH k l) ps)) :: nO lQ (mkL br aH k l) ps) (fun _ => .int .i64 (kL aH k l)) := by
 refine aB Tryz.func135 rfl Tryz.ntmps135 rfl rfl rfl fun w0 R gs objsR hG hR => ?_
 obtain rfl := hR.eq
 clear hR
 obtain ⟨hn, hsm⟩ := hn
 repeat' refine W_ ?_
 apply ai (X := Nat) [0, 1000000] (fun x => [(5, .int .i64 (x : Int)), (1, .int .i64 (kL aH k (l.take x)))]) (fun x => (s, b, .row 3 (nR jE (ptL br aH k l x) ps)) :: (nO lQ (ptL br aH k l x) ps ++ R)) (fun x => x <= l.length) (fun x => l.length - x) 0 (Nat.zero_le _)
 exact kp_; exact nw_
 ·exact .refl _
 intro i hi
 try dsimp only
 have hq := bQ (k := k) (i := i) hn (dL hsm) hi
 by_cases hlt : i < l.length
 ·obtain ⟨p, hp⟩ : ∃ p, ps[i]? = some p := ⟨_, List.getElem?_eq_getElem (by omega)⟩
  have hpl : i < (ptL br aH k l i).length := by rw [cS hi]; exact hlt
  have hrow := acX jE (dT (mk := br) (nx := aH) (k := k) hlt) hp
  have hset := acN jE (l := ptL br aH k l i) (x := br (kL aH k (l.take i)) l[i]) hp
  have hout := zH lQ (dT (mk := br) (nx := aH) (k := k) hlt) hp
  have hin := aes lQ (x := br (kL aH k (l.take i)) l[i]) hpl hp
  rw [fN hlt] at hset hin
  have hks := fq (nx := aH) (k := k) hlt
  have hrl : (nR jE (ptL br aH k l i) ps).length = l.length := by rw [acZ _ (by rw [cS hi]; exact hps), cS hi]
  have hb := hsm _ (List.getElem_mem hlt)
  generalize (nO lQ (ptL br aH k l i) ps).eraseIdx i = E at hout hin
  generalize nO lQ (ptL br aH k l i) ps = N0 at hout |-
  generalize nR jE (ptL br aH k l i) ps = rows at hrow hset hrl |-
  generalize kL aH k (l.take i) = q at hq hset hks hin |-
  generalize l[i] = x at hrow hset hks hout hin hb
  replace hrow : rows[i]? = some [.str x.name, .int .i64 x.parent, .ms p.1 p.2 0 x.fields.length] := hrow
  have hr1 : (rows.set i [.str (jA (q)), .int .i64 x.parent, .ms p.1 p.2 0 x.fields.length])[i]? = some [.str (jA (q)), .int .i64 x.parent, .ms p.1 p.2 0 x.fields.length] := by rw [List.getElem?_set_self (by omega)]
  have hct := iN hst p.1 p.2 x.fields (q + 1 + 1) hb.2.1 (by omega)
  repeat' (first | refine W_ ?_ | refine bJ ?_ | ((with_reducible apply mD); rfl; kernel_rfl; (repeat (first | exact dg.nil | ((with_reducible apply dg.cons); rfl; exact .same _))); exact hG; exact hst; exact du _ (by omega) (by omega)))
  refine mc (xR hout R) ?_
  repeat' (first | refine W_ ?_ | ((with_reducible apply aE); rfl; kernel_rfl; (repeat (first | exact ay.nil | ((with_reducible apply ay.cons); rfl))); exact hG; exact hct; exact .cons _ _ _ _ (.nil _); intro y hy; refine bF ?_))
  refine ah (i + 1) (by omega) (by omega) (.of _ (bX.envCons rfl (bX.envCons (gO rfl (by rw [hks]; rfl)) bX.envNil)) od_ ?_)
  rw [hset]
  simp only [List.set_set]
  have hcl : jE (br q x) p = [.str (jA (q)), .int .i64 (q + 1), .ms p.1 p.2 0 x.fields.length] := by
    unfold jE br
    dsimp only
    rw [dn]
  rw [hcl]
  exact zU hin R
 ·obtain rfl : i = l.length := by omega
  rw [ep, List.take_length]
  repeat' refine W_ ?_
  exact az x_ rfl () trivial rfl (.cons _ _ _ _ (.app _ R)) (.refl _) (.tmp _ _ rfl) rfl
theorem sy (hst : aC G) (s b : Nat) (l : List aw) (ps : List (Nat × Nat)) (hps : ps.length = l.length) (k : Int) (hn : l.length <= 1048576 /\ ∀ y ∈ l, aw.small 1048576 y) (hk : 0 <= k /\ k <= 100000000000000) :
   CtM Tryz.prog G 136 [.ms s b 0 l.length, .int .i64 k] ((s, b, .row 4 (nR jD l ps)) :: nO lH l ps) (fun _ : Unit => True) (fun _ => (s, b, .row 4 (nR jD (mkL fk cP k l) ps)) :: nO lH (mkL fk cP k l) ps) (fun _ => .int .i64 (kL cP k l)) := by
 refine aB Tryz.func136 rfl Tryz.ntmps136 rfl rfl rfl fun w0 R gs objsR hG hR => ?_
 obtain rfl := hR.eq
 clear hR
 obtain ⟨hn, hsm⟩ := hn
 repeat' refine W_ ?_
 apply ai (X := Nat) [0, 1000000] (fun x => [(5, .int .i64 (x : Int)), (1, .int .i64 (kL cP k (l.take x)))]) (fun x => (s, b, .row 4 (nR jD (ptL fk cP k l x) ps)) :: (nO lH (ptL fk cP k l x) ps ++ R)) (fun x => x <= l.length) (fun x => l.length - x) 0 (Nat.zero_le _)
 exact kp_; exact nw_
 ·exact .refl _
 intro i hi
 try dsimp only
 have hq := bQ (k := k) (i := i) hn (oH hsm) hi
 by_cases hlt : i < l.length
 ·obtain ⟨p, hp⟩ : ∃ p, ps[i]? = some p := ⟨_, List.getElem?_eq_getElem (by omega)⟩
  have hpl : i < (ptL fk cP k l i).length := by rw [cS hi]; exact hlt
  have hrow := acX jD (dT (mk := fk) (nx := cP) (k := k) hlt) hp
  have hset := acN jD (l := ptL fk cP k l i) (x := fk (kL cP k (l.take i)) l[i]) hp
  have hout := zH lH (dT (mk := fk) (nx := cP) (k := k) hlt) hp
  have hin := aes lH (x := fk (kL cP k (l.take i)) l[i]) hpl hp
  rw [fN hlt] at hset hin
  have hks := fq (nx := cP) (k := k) hlt
  have hrl : (nR jD (ptL fk cP k l i) ps).length = l.length := by rw [acZ _ (by rw [cS hi]; exact hps), cS hi]
  have hb := hsm _ (List.getElem_mem hlt)
  generalize (nO lH (ptL fk cP k l i) ps).eraseIdx i = E at hout hin
  generalize nO lH (ptL fk cP k l i) ps = N0 at hout |-
  generalize nR jD (ptL fk cP k l i) ps = rows at hrow hset hrl |-
  generalize kL cP k (l.take i) = q at hq hset hks hin |-
  generalize l[i] = x at hrow hset hks hout hin hb
  replace hrow : rows[i]? = some [.bool x.block, .int .i64 x.params, .int .i64 x.slots, .ms p.1 p.2 0 x.instrs.length] := hrow
  have hr1 : (rows.set i [.bool (decide ((q).tmod 3 = 0)), .int .i64 x.params, .int .i64 x.slots, .ms p.1 p.2 0 x.instrs.length])[i]? = some [.bool (decide ((q).tmod 3 = 0)), .int .i64 x.params, .int .i64 x.slots, .ms p.1 p.2 0 x.instrs.length] := by rw [List.getElem?_set_self (by omega)]
  have hct := qg hst p.1 p.2 x.instrs (q + 1 + 1 + 1) hb.1 (by omega)
  repeat' (first | refine W_ ?_ | refine bJ ?_)
  refine mc (xR hout R) ?_
  repeat' (first | refine W_ ?_ | ((with_reducible apply aE); rfl; kernel_rfl; (repeat (first | exact ay.nil | ((with_reducible apply ay.cons); rfl))); exact hG; exact hct; exact .cons _ _ _ _ (.nil _); intro y hy; refine bF ?_))
  refine ah (i + 1) (by omega) (by omega) (.of _ (bX.envCons rfl (bX.envCons (gO rfl (by rw [hks]; rfl)) bX.envNil)) od_ ?_)
  rw [hset]
  simp only [List.set_set]
  have hcl : jD (fk q x) p = [.bool (decide ((q).tmod 3 = 0)), .int .i64 (q + 1), .int .i64 (q + 1 + 1), .ms p.1 p.2 0 x.instrs.length] := by
    unfold jD fk
    dsimp only
    rw [dn]
  rw [hcl]
  exact zU hin R
 ·obtain rfl : i = l.length := by omega
  rw [ep, List.take_length]
  repeat' refine W_ ?_
  exact az x_ rfl () trivial rfl (.cons _ _ _ _ (.app _ R)) (.refl _) (.tmp _ _ rfl) rfl
end
def aek (l : List aa) (y : (Nat × Nat) × List (Nat × Nat)) : aF := (y.1.1, y.1.2, .row 3 (nR jE l y.2)) :: nO lQ l y.2
def afs (l : List aw) (y : (Nat × Nat) × List (Nat × Nat)) : aF := (y.1.1, y.1.2, .row 4 (nR jD l y.2)) :: nO lH l y.2
def afz (l : List av) (y : Nat × Nat) : aF := [(y.1, y.2, .row 4 (l.map (av.tw 0)))]
def CbP : Type := ((Nat × Nat) × List (Nat × Nat)) × ((Nat × Nat) × List (Nat × Nat)) × (Nat × Nat)
def cbO (x : aA) (y : CbP) : aF := aek x.classes y.1 ++ (afs x.codes y.2.1 ++ afz x.entries y.2.2)
def cbC (x : aA) (y : CbP) : List TV := [.ms y.1.1.1 y.1.1.2 0 x.classes.length, .ms y.2.1.1.1 y.2.1.1.2 0 x.codes.length, .ms y.2.2.1 y.2.2.2 0 x.entries.length, .int .i64 x.main]
def cbI (x : aA) (y : CbP) : Prop := y.1.2.length = x.classes.length /\ y.2.1.2.length = x.codes.length
theorem kD (A : aF) (x z : Nat × Nat × bv) (R : aF) : cZ (x :: z :: (A ++ R)) (A ++ (x :: z :: R)) := .perm (by
 have h1 : (A ++ (x :: z :: R)).Perm (x :: (A ++ (z :: R))) := List.perm_middle
 have h2 : (A ++ (z :: R)).Perm (z :: (A ++ R)) := List.perm_middle
 exact (h1.trans (h2.cons x)).symm)
theorem uU (A : aF) (x z : Nat × Nat × bv) (R : aF) : cZ (A ++ (x :: z :: R)) (x :: z :: (A ++ R)) := .perm (by
 have h1 : (A ++ (x :: z :: R)).Perm (x :: (A ++ (z :: R))) := List.perm_middle
 have h2 : (A ++ (z :: R)).Perm (z :: (A ++ R)) := List.perm_middle
 exact h1.trans (h2.cons x))
theorem vM (A B C R : aF) : ((A ++ (B ++ C)) ++ R).Perm (C ++ (B ++ (A ++ R))) := by
 have h1 : (A ++ (B ++ C)).Perm (C ++ (B ++ A)) := by
   have : (A ++ (B ++ C)).Perm ((B ++ C) ++ A) := List.perm_append_comm
   refine this.trans ?_
   have h2 : ((B ++ C) ++ A).Perm ((C ++ B) ++ A) := (List.perm_append_comm).append_right A
   rw [List.append_assoc] at h2
   rw [List.append_assoc] at h2 |-
   exact h2
 have h3 := h1.append_right R
 simpa [List.append_assoc] using h3
theorem rn (A B C R : aF) : cZ (C ++ (A ++ (B ++ R))) (B ++ (A ++ (C ++ R))) := .perm (by
 have h1 : (C ++ (A ++ B)).Perm (B ++ (A ++ C)) := by
   have h := (vM C A B [])
   simpa using h
 simpa [List.append_assoc] using h1.append_right R)
theorem qB (A B C R : aF) : cZ (A ++ (B ++ (C ++ R))) (C ++ (A ++ (B ++ R))) := .perm (by
 have h1 : (A ++ (B ++ C)).Perm (C ++ (A ++ B)) := by
   rw [<- List.append_assoc]
   exact List.perm_append_comm
 simpa [List.append_assoc] using h1.append_right R)
section
variable {G : World -> Prop}
theorem pM (hst : aC G) (lo : Nat) (x : aA) (hb : x.small 1048576) : CtM Tryz.prog G 39 [.agg (x.tw lo)] [] (cbI x) (cbO x) (fun y => .agg (cbC x y)) := by
 refine aB Tryz.func39 rfl Tryz.ntmps39 rfl rfl rfl fun w0 R gs objsR hG hR => ?_
 obtain rfl := hR.inv0
 clear hR
 have c1 := iG hst lo x.classes hb.1
 have c2 := vd hst lo x.codes hb.2.1
 have c3 := uz hst lo x.entries hb.2.2
 unfold aA.tw
 repeat' (first | refine W_ ?_ | refine aJ ?_ | (refine ak ?_; intro ss bb) | refine ae ?_ | ((with_reducible apply aE); rfl; kernel_rfl; (repeat (first | exact ay.nil | ((with_reducible apply ay.cons); rfl))); exact hG; (first | exact c1 | exact c2 | exact c3); exact .nil _; intro y hy; refine bY (kD _ _ _ _) ?_))
 rename_i yc hyc yd hyd
 refine az (t1 := .agg [.ms yc.1.1 yc.1.2 0 x.classes.length, .ms yd.1.1 yd.1.2 0 x.codes.length, .ms y.1 y.2 0 x.entries.length, .int .i64 x.main]) x_ rfl (yc, yd, y) ⟨hyc, hyd⟩ rfl (.app _ R) (.drop (.drop (.perm (vM _ _ _ R)))) (.cell _ _ _ _ _ rfl mm_ (by kernel_rfl) (by kernel_rfl) (by kernel_rfl)) rfl
def eJ (k : Int) (x : aA) : aA := ⟨mkL br aH k x.classes, mkL fk cP (kL aH k x.classes) x.codes, mkL gQ di (kL cP (kL aH k x.classes) x.codes) x.entries, x.main⟩
def bw (k : Int) (x : aA) : Int := kL di (kL cP (kL aH k x.classes) x.codes) x.entries
theorem kN {x : aA} (hb : x.small 1048576) (k : Int) : k <= bw k x /\ bw k x <= k + 6000000000000 := by
 have h1 := bQ (k := k) (i := x.classes.length) hb.1.1 (dL hb.1.2) (Nat.le_refl _)
 have h2 := bQ (k := kL aH k x.classes) (i := x.codes.length) hb.2.1.1 (oH hb.2.1.2) (Nat.le_refl _)
 have h3 := bQ (k := kL cP (kL aH k x.classes) x.codes) (i := x.entries.length) hb.2.2.1 (qq x.entries) (Nat.le_refl _)
 rw [List.take_length] at h1 h2 h3
 unfold bw
 omega
theorem nd (hst : aC G) (x : aA) (y : CbP) (hy : cbI x y) (hb : x.small 1048576) (k : Int) (hk : 0 <= k /\ k <= 50000000000000) :
   CtM Tryz.prog G 60 [.agg (cbC x y), .int .i64 k] (cbO x y) (fun _ : Unit => True) (fun _ => cbO (eJ k x) y) (fun _ => .int .i64 (bw k x)) := by
 refine aB Tryz.func60 rfl Tryz.ntmps60 rfl rfl rfl fun w0 R gs objsR hG hR => ?_
 obtain rfl := hR.eq
 clear hR
 have h1 := bQ (k := k) (i := x.classes.length) hb.1.1 (dL hb.1.2) (Nat.le_refl _)
 have h2 := bQ (k := kL aH k x.classes) (i := x.codes.length) hb.2.1.1 (oH hb.2.1.2) (Nat.le_refl _)
 rw [List.take_length] at h1 h2
 have c1 := gf hst y.1.1.1 y.1.1.2 x.classes y.1.2 hy.1 k hb.1 (by omega)
 have c2 := sy hst y.2.1.1.1 y.2.1.1.2 x.codes y.2.1.2 hy.2 (kL aH k x.classes) hb.2.1 (by omega)
 have c3 := qd hst y.2.2.1 y.2.2.2 x.entries (kL cP (kL aH k x.classes) x.codes) hb.2.2.1 (by omega)
 have e0 : cbO x y ++ R = aek x.classes y.1 ++ (afs x.codes y.2.1 ++ (afz x.entries y.2.2 ++ R)) := by unfold cbO; simp [List.append_assoc]
 have e1 : cbO (eJ k x) y ++ R = aek (eJ k x).classes y.1 ++ (afs (eJ k x).codes y.2.1 ++ (afz (eJ k x).entries y.2.2 ++ R)) := by unfold cbO; simp [List.append_assoc]
 rw [e0]
 unfold cbC
 repeat' (first | refine W_ ?_ | refine aJ ?_ | ((with_reducible apply aE); rfl; kernel_rfl; (repeat (first | exact ay.nil | ((with_reducible apply ay.cons); rfl))); exact hG; exact c1; exact .app _ _; intro z hz; refine bY (sc _ _ _) ?_) | ((with_reducible apply aE); rfl; kernel_rfl; (repeat (first | exact ay.nil | ((with_reducible apply ay.cons); rfl))); exact hG; exact c2; exact .app _ _; intro z hz; refine bY (rn _ _ _ _) ?_) | ((with_reducible apply aE); rfl; kernel_rfl; (repeat (first | exact ay.nil | ((with_reducible apply ay.cons); rfl))); exact hG; exact c3; exact .app _ _; intro z hz))
 refine az x_ rfl () trivial rfl (.app _ R) ?_ (.tmp _ _ rfl) rfl
 rw [e1]
 exact qB _ _ _ R
end
section
variable {G : World -> Prop}
theorem pK (hst : aC G) (lo : Nat) (l : List ByteArray) (k : Int) (hn : l.length <= 1099600000000) (hk : 0 <= k /\ k <= 1000000000000000) : Ct Tryz.prog G 19 [.sl lo 1 (aT (mkL cu aZ k l)), .int .i64 k] (fun _ => .int .i64 (kL aZ k l)) := by
 refine aq Tryz.func19 rfl Tryz.ntmps19 rfl rfl fun w0 _ hG => ?_
 have hrl : (aT (mkL cu aZ k l)).length = l.length := by simp [aT, dn]
 have hget := fun i (h : i < l.length) => ads (mk := cu) (nx := aZ) (k := k) h
 have hgr : ∀ i (h : i < l.length), (aT (mkL cu aZ k l))[i]? = some [.str (jA (kL aZ k (l.take i)))] := fun i h => by
   simp only [aT, List.getElem?_map, hget i h]; rfl
 generalize aT (mkL cu aZ k l) = rows at hrl hgr |-
 repeat' refine W_ ?_
 apply ai (X := Nat) [0] (fun x => [(5, .int .i64 (x : Int)), (1, .int .i64 (kL aZ k (l.take x)))]) (fun _ => []) (fun x => x <= l.length) (fun x => l.length - x) 0 (Nat.zero_le _)
 exact kp_; exact nw_
 ·exact .refl _
 intro i hi
 try dsimp only
 have hq := bQ (k := k) (i := i) hn (fJ l) hi
 by_cases hlt : i < l.length
 ·have hrow := hgr i hlt
  have hks : kL aZ k (l.take (i + 1)) = kL aZ k (l.take i) + 1 := fq hlt
  generalize kL aZ k (l.take i) = q at hq hrow hks |-
  have hs0 : ¬ jA (q) ≠ jA (q) := fun h => h rfl
  have hm0 := du (G := G) (q) (by omega) (by omega)
  repeat' (first | refine V_ ?_ | refine ad hG hst (hm0) ?_)
  all_goals first
    | exact ah (i + 1) (by omega) (by omega) (.of _ (bX.envCons rfl (bX.envCons (gO rfl (by rw [hks])) bX.envNil)) od_ pk_)
    | (exfalso; simp_all; done)
 ·obtain rfl : i = l.length := by omega
  rw [List.take_length]
  repeat' refine W_ ?_
  exact r1_
end
def rx (objs : aF) (l l' : List TV) : Prop := l'.length = l.length /\ ∀ (j : Nat) (t t' : TV), l[j]? = some t -> l'[j]? = some t' -> cz objs t t'
theorem rx.nil {objs : aF} : rx objs [] [] := ⟨rfl, by simp⟩
theorem rx.cons {objs : aF} {t t' : TV} {l l' : List TV} (h : cz objs t t') (hr : rx objs l l') : rx objs (t :: l) (t' :: l') := ⟨by simp [hr.1], fun j u u' h1 h2 => by
 cases j with
 | zero => simp at h1 h2; subst h1; subst h2; exact h
 | succ j => exact hr.2 j u u' (by simpa using h1) (by simpa using h2)⟩
theorem rx.append {objs : aF} {a a' b b' : List TV} (h : rx objs a a') (k : rx objs b b') : rx objs (a ++ b) (a' ++ b') := ⟨by simp [h.1, k.1], fun j u u' h1 h2 => by
 by_cases hj : j < a.length
 ·rw [List.getElem?_append_left hj] at h1
  rw [List.getElem?_append_left (by rw [h.1]; exact hj)] at h2
  exact h.2 j u u' h1 h2
 ·rw [List.getElem?_append_right (by omega)] at h1
  rw [List.getElem?_append_right (by rw [h.1]; omega)] at h2
  rw [h.1] at h2
  exact k.2 _ u u' h1 h2⟩
section
variable {G : World -> Prop}
end
section
variable {G : World -> Prop}
end
section
variable {G : World -> Prop}
end
section
variable {G : World -> Prop}
end
end Go.Proofs.YtigipcbnfeoliaaGreatDoor
