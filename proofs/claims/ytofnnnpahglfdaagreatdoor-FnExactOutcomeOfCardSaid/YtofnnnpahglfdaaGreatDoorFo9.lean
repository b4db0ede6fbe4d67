/- Part 9 of the proof: the texts SdD, SdE, MkN, MkC, MkH, MkV, CpA, CpB, CpC, CpD. -/
import Derived.Test.YtofnnnpahglfdaaGreatDoorFo3
import Derived.Test.YtofnnnpahglfdaaGreatDoorFo6
import Derived.Test.YtofnnnpahglfdaaGreatDoorFo4
import Derived.Test.YtofnnnpahglfdaaGreatDoorFo7
import Derived.Test.YtofnnnpahglfdaaGreatDoorFo8
set_option linter.all false
set_option maxHeartbeats 2000000
set_option maxRecDepth 20000
namespace Go.Proofs.YtofnnnpahglfdaaGreatDoor
open Go Go.RowKit
theorem tT {G : World -> Prop} (hst : aB G) (hca : ∀ s : ByteArray, s.size <= 1048576 -> Ct Tryz.prog G 195 [.str s] (fun _ => .int .i64 (bQ s.data.toList))) (op a b : Int) (t : ByteArray) (hs : t.size <= 1048576) (hop : inR op 1 26 = true) : Ct Tryz.prog G 259 [.agg [.int .i64 op, .int .i64 a, .int .i64 b, .str t]] (fun _ => .tup [.int .i64 (ah.eff ⟨op, a, b, t⟩).1, .int .i64 (ah.eff ⟨op, a, b, t⟩).2]) := by
 refine am Tryz.func259 rfl Tryz.ntmps259 rfl rfl fun w0 _ hG => ?_
 have h1 := qT t.data.toList
 have h2 := ri t.data.toList
 simp only [inR, decide_eq_true_eq] at hop
 repeat' (first | refine W_ ?_ | refine aD ?_ | refine ab hG hst (hca _ hs) ?_ | refine c_ (fun hc => ?_) (fun hc => ?_))
 all_goals
   clear hst
   have he : ah.eff ⟨op, a, b, t⟩ = ah.eff ⟨op, a, b, t⟩ := rfl
   conv at he => rhs; unfold ah.eff
   dsimp only at he
   rw [he]
   refine cZ x_ rfl (.tmp _ _ rfl) (.tmp _ _ rfl) (fun _ => ?_) (fun _ => ?_)
   all_goals
     refine aa4 ?_
     first
       | (subst hc; simp; done)
       | (have h3 : op = 20 \/ op = 23 := by omega
          rcases h3 with rfl | rfl <;> simp; done)
       | (have h3 : ¬ (op = 20 \/ op = 23) := by omega
          simp [*]; done)
       | (simp [*]; done)
def plR (l : List (Int × Int)) : List (List TV) := l.map fun x => [.int .i64 x.1, .int .i64 x.2]
theorem adD {B L : Nat} {objs : aH} {l : List (Int × Int)} (h : l = []) : Fin B objs L .nils (.sl L 2 (plR l)) := by subst h; exact .nils _
theorem abo {B L : Nat} {objs : aH} {l : List (Int × Int)} {rows : List (List TV)} (h : rows = plR l) : Fin B objs L (.sl B 2 rows) (.sl L 2 (plR l)) := by
 subst h
 refine Fin.slFlat (Nat.le_refl _) fun t ht => ?_
 obtain ⟨r, hr, htr⟩ := List.mem_flatten.1 ht
 obtain ⟨x, _, rfl⟩ := List.mem_map.1 hr
 simp at htr
 rcases htr with rfl | rfl <;> rfl
theorem adl {G : World -> Prop} (hst : aB G) (hca : ∀ s : ByteArray, s.size <= 1048576 -> Ct Tryz.prog G 195 [.str s] (fun _ => .int .i64 (bQ s.data.toList))) (op a b : Int) (t : ByteArray) (p : Nat) (d : Int) (hs : t.size <= 1048576) (hop : inR op 1 26 = true) (hp : p <= 1048576) (hd : 0 <= d /\ d <= 250) :
   Ct Tryz.prog G 260 [.agg [.int .i64 op, .int .i64 a, .int .i64 b, .str t], .int .i64 (p : Int), .int .i64 d] (fun L => .sl L 2 (plR (ah.nexts ⟨op, a, b, t⟩ p d))) := by
 refine am Tryz.func260 rfl Tryz.ntmps260 rfl rfl fun w0 _ hG => ?_
 have hef := tT hst hca op a b t hs hop
 have her := iy ⟨op, a, b, t⟩
 have hnx : ah.nexts ⟨op, a, b, t⟩ p d = ah.nexts ⟨op, a, b, t⟩ p d := rfl
 conv at hnx => rhs; unfold ah.nexts
 dsimp only at hnx
 rw [hnx]
 generalize (ah.eff ⟨op, a, b, t⟩).1 = e1 at *
 generalize (ah.eff ⟨op, a, b, t⟩).2 = e2 at *
 simp only [inR, decide_eq_true_eq] at hop
 repeat' (first | refine W_ ?_ | refine aD ?_ | refine cH ?_ | refine eW ?_ | refine ab hG hst (hef) ?_ | refine c_ (fun hc => ?_) (fun hc => ?_))
 all_goals
   clear hst hca hef her hnx
   refine aE x_ rfl (.tmp _ _ rfl) (fun _ => ?_)
   first
     | (refine adD ?_; simp [*]; done)
     | (refine abo ?_; simp [plR, *]; done)
     | (refine abo ?_; have h3 : ¬ (op = 21 \/ op = 22) := by omega
        simp [plR, *]; done)
     | (refine abo ?_; have h3 : ¬ (op = 21 \/ op = 22) := by omega
        have h4 : ¬ (op = 24 \/ op = 25) := by omega
        simp [plR, *]; done)
def cA (op : Int) : List Nat := if op = 20 then [1] else if op = 21 \/ op = 22 then [1, 2] else if op = 24 \/ op = 25 \/ op = 26 then [2] else []
def xH (op : Int) (s b : Nat) : List (List TV) := (cA op).map fun o => [.mp s b o]
theorem adS (op a b : Int) (t : ByteArray) : ah.labs ⟨op, a, b, t⟩ = (cA op).map fun o => if o = 1 then a else b := by
 unfold ah.labs cA
 dsimp only
 repeat' split
 all_goals simp
theorem mZ {G : World -> Prop} (s9 b9 : Nat) (op a b : Int) (t : ByteArray) : CtM Tryz.prog G 258 [.mp s9 b9 0] [(s9, b9, .box [.int .i64 op, .int .i64 a, .int .i64 b, .str t])] (fun _ : Nat × Nat => True)
   (fun y => [(y.1, y.2, .row 1 (xH op s9 b9)), (s9, b9, .box [.int .i64 op, .int .i64 a, .int .i64 b, .str t])]) (fun y => .ms y.1 y.2 0 (xH op s9 b9).length) := by
 have hcase : (op = 20 /\ xH op s9 b9 = [[.mp s9 b9 1]]) \/ ((op = 21 \/ op = 22) /\ xH op s9 b9 = [[.mp s9 b9 1], [.mp s9 b9 2]]) \/ ((op = 24 \/ op = 25 \/ op = 26) /\ xH op s9 b9 = [[.mp s9 b9 2]]) \/ (¬ op = 20 /\ ¬ op = 21 /\ ¬ op = 22 /\ ¬ op = 24 /\ ¬ op = 25 /\ ¬ op = 26 /\ xH op s9 b9 = []) := by
   unfold xH cA
   by_cases h20 : op = 20
   ·exact .inl ⟨h20, by simp [h20]⟩
   by_cases h21 : op = 21 \/ op = 22
   ·exact .inr (.inl ⟨h21, by simp [h20, h21]⟩)
   by_cases h24 : op = 24 \/ op = 25 \/ op = 26
   ·exact .inr (.inr (.inl ⟨h24, by simp [h20, h21, h24]⟩))
   ·exact .inr (.inr (.inr ⟨h20, by omega, by omega, by omega, by omega, by omega, by simp [h20, h21, h24]⟩))
 rcases hcase with ⟨h1, hr⟩ | ⟨h1, hr⟩ | ⟨h1, hr⟩ | ⟨h1, h2, h3, h4, h5, h6, hr⟩
 all_goals
   rw [hr]
   refine aC Tryz.func258 rfl Tryz.ntmps258 rfl rfl rfl fun w0 R gs objsR hG hR => ?_
   obtain rfl := hR.inv1
   repeat' (first | refine W_ ?_ | (refine kQ ?_; intro ss bb) | (with_reducible apply iU (id := 6) 6; kernel_rfl; kernel_rfl; kernel_rfl; (repeat (first | exact Cut.zero _ | apply Cut.succ))) | with_reducible refine fQ (by kernel_rfl) (by kernel_rfl) ?_ | with_reducible refine jz ?_ | with_reducible refine fV ?_ | with_reducible refine fS rfl ?_ | refine jB rfl rfl rfl rr_ ?_ | refine fU rfl rfl rfl rr_ rfl rfl rfl ?_ | refine eG rfl rfl rfl rr_ rfl rfl ?_ | (refine o8 rfl rfl rfl rr_ dd_ ?_) | (refine oU rfl rfl rfl rr_ dd_ ?_) | (refine dh rfl rfl rfl rr_ (fun hg => ?_) (fun hg => ?_)) | (refine cN rfl rfl rfl rr_ (fun hg => ?_) (fun hg => ?_)) | ((with_reducible apply d_y); exact y_; rfl) | refine c_ (fun hc => ?_) (fun hc => ?_))
 all_goals first
   | (refine av x_ rfl (ss, bb) trivial rfl (.cons _ _ _ _ (.cons _ _ _ _ (.nil R))) pk_ (.tmp _ _ rfl) rfl; done)
   | (refine dT 2 1 (by omega) rfl fun ss => av x_ rfl (ss, 0) trivial rfl (.cons _ _ _ _ (.cons _ _ _ _ (.nil R))) pk_ (.tmp _ _ rfl) rfl; done)
section
variable {w0 w w' : World} {objs : aH} {ss b : Nat} {ob : bj}
theorem t6 (hw : dv w0 objs w) (hbel : Below w.heap.size w w') (hb : w.heap.size <= b) : lb w objs w' ((ss, b, ob) :: objs) := by
 have hk : ∀ k, k < w.heap.size -> w'.heap[k]? = w.heap[k]? := fun k hk => hbel.block k hk
 have hpos : 0 < w.heap.size := Nat.lt_of_lt_of_le hw.pos hw.below.size
 refine ⟨fun k h _ => hk k h, fun k h ha => ⟨ha.1, ?_⟩, fun s k m rows h _ hm => ?_, hbel.size, fun hm => ?_⟩
 ·obtain ⟨s, o, hm⟩ := ha.2
  rcases List.mem_cons.1 hm with he | hm
  ·simp only [Prod.mk.injEq] at he; omega
  ·exact ⟨s, o, hm⟩
 ·rcases List.mem_cons.1 hm with he | hm
  ·simp only [Prod.mk.injEq] at he; omega
  ·exact ⟨⟨rows, hm⟩, f7 (hk k h)⟩
 ·rcases List.mem_cons.1 hm with he | hm
  ·simp only [cY, Prod.mk.injEq] at he; omega
  ·exact hm
theorem dv.newB (hw : dv w0 objs w) (hbel : Below w.heap.size w w') (hb : w.heap.size <= b) (hs : ∀ x ∈ objs, x.1 ≠ ss) (ho : t8 w' w0.heap.size ((ss, b, ob) :: objs) b ob) : dv w0 ((ss, b, ob) :: objs) w' :=
 ⟨hw.below.trans (hbel.mono hw.below.size), hw.pos, fun s k o hm => by
   rcases List.mem_cons.1 hm with he | hm
   ·simp only [Prod.mk.injEq] at he; obtain ⟨rfl, rfl, rfl⟩ := he; exact ho
   ·exact (hw.obj s k o hm).step (t6 hw hbel hb) (hbel.block k (df hw hm)),
 List.pairwise_cons.2 ⟨fun y hy => ⟨fun e => hs y hy e.symm, .inl (by have := df (s := y.1) (b := y.2.1) (ob := y.2.2) hw hy; simp only; omega)⟩, hw.sites⟩⟩
end
theorem ye {w : World} {B b n : Nat} {objs : aH} (hB : B <= b) (hn : n <= 1048576) (x : Int) (hb : Blk w b 3 (List.replicate n (Value.int .i64 x)).toArray) : t8 w B objs b (.row 1 (aS (List.replicate n x))) := by
 refine ⟨⟨by omega, fun t ht => by have := kU _ t ht; cases t <;> first | rfl | cases this⟩, fun r hr => ?_, .inr ⟨hB, _, _, n, hb, by simp, by simp [aS], by simp [maxLen]; omega, fun j t hj => ?_⟩⟩
 ·obtain ⟨y, _, rfl⟩ := List.mem_map.1 hr; rfl
 ·rw [lZ, List.getElem?_map, Option.map_eq_some_iff] at hj
  obtain ⟨y, hy, rfl⟩ := hj
  obtain rfl := List.eq_of_mem_replicate (List.mem_of_getElem? hy)
  have hlt : j < n := by simpa using (List.getElem?_eq_some_iff.1 hy).1
  exact ⟨_, by simp [hlt], .int _ _⟩
theorem uB {G : World -> Prop} (lo n : Nat) (hn0 : 1 <= n) (hn : n <= 1048576) : CtM Tryz.prog G 199 [.sl lo 1 [[.int .i64 (-1)]], .int .i64 n] [] (fun _ : Nat × Nat => True) (fun y => [(y.1, y.2, .row 1 (aS (List.replicate n (-1))))]) (fun y => .ms y.1 y.2 0 n) := fun w0 w R gs vs hG hw hgs hsz hrep => by
 simp only [List.nil_append] at hw hgs hrep
 obtain ⟨v1, v2, rfl⟩ : ∃ v1 v2, vs = #[v1, v2] := by
   match vs, hsz with
   | ⟨[v1, v2]⟩, _ => exact ⟨v1, v2, rfl⟩
 have h1 := hrep 0 _ v1 rfl rfl
 have h2 := (hrep 1 _ v2 rfl rfl).int_inv
 subst h2
 obtain ⟨A, c, rfl, _, _, _, _, h3⟩ := iC h1
 obtain ⟨b, q, u, rfl, _, h5, h6⟩ := h3 0 (.int .i64 (-1)) rfl
 rw [h6.int_inv] at h5
 refine (yP b q c n w (by simpa using h5) hn0 hn).mono ?_
 rintro e w' ⟨rfl, hbel, hblk⟩
 obtain ⟨ss, hss⟩ := e9 R
 have hwB : w0.heap.size <= w.heap.size := hw.below.size
 have hst := t6 (ss := ss) (ob := .row 1 (aS (List.replicate n (-1)))) hw hbel (Nat.le_refl _)
 have hlt : w.heap.size < w'.heap.size := hblk.lt
 have hb0 : w.heap.size ≠ 0 := Nat.ne_of_gt (Nat.lt_of_lt_of_le hw.pos hwB)
 have hw' := hw.newB (ss := ss) hbel (Nat.le_refl _) hss (ye (w := w') hwB hn (-1) hblk)
 refine ⟨_, (ss, w.heap.size), rfl, trivial, hw', hgs.step hst, .ms _ _ _ _ _ (.mk ⟨hlt, hw'.noMark, _, _, rfl⟩ (fun m rows hm => .inr ⟨hb0, 0, n, 3, n * 1, rfl, Nat.le_refl _, ?_, ?_, fun _ => by simp⟩) (fun h0 => absurd h0 hb0))⟩
 ·unfold World.shape?; rw [hblk]; simp
 ·rcases List.mem_cons.1 hm with he | hm
  ·simp only [Prod.mk.injEq, bj.row.injEq] at he; rw [he.2.2.1]; simp
  ·exact absurd (df hw hm) (Nat.lt_irrefl _)
def mkL {α : Type} (mk : Int -> α -> α) (nx : Int -> α -> Int) : Int -> List α -> List α
 | _, [] => []
 | k, x :: r => mk k x :: mkL mk nx (nx k x) r
def kL {α : Type} (nx : Int -> α -> Int) (k : Int) (l : List α) : Int := l.foldl nx k
def ptL {α : Type} (mk : Int -> α -> α) (nx : Int -> α -> Int) (k : Int) (l : List α) (i : Nat) : List α := mkL mk nx k (l.take i) ++ l.drop i
section
variable {α : Type} {mk : Int -> α -> α} {nx : Int -> α -> Int}
theorem da : ∀ (k : Int) (l : List α), (mkL mk nx k l).length = l.length
 | _, [] => rfl
 | k, x :: r => by simp [mkL, da (nx k x) r]
theorem vu : ∀ (k : Int) (a b : List α), mkL mk nx k (a ++ b) = mkL mk nx k a ++ mkL mk nx (kL nx k a) b
 | _, [], b => rfl
 | k, x :: r, b => by
   show mk k x :: mkL mk nx (nx k x) (r ++ b) = mk k x :: (mkL mk nx (nx k x) r ++ mkL mk nx (kL nx (nx k x) r) b)
   rw [vu]
theorem eU {k : Int} {l : List α} {i : Nat} (h : i < l.length) : kL nx k (l.take (i + 1)) = nx (kL nx k (l.take i)) l[i] := by
 rw [ed h]
 unfold kL
 rw [List.foldl_append]; rfl
theorem cT {k : Int} {l : List α} {i : Nat} (h : i <= l.length) : (ptL mk nx k l i).length = l.length := by
 unfold ptL
 rw [List.length_append, da, List.length_take, List.length_drop]; omega
theorem dP {k : Int} {l : List α} {i : Nat} (h : i < l.length) : (ptL mk nx k l i)[i]? = some l[i] := by
 unfold ptL
 rw [List.getElem?_append_right (by rw [da, List.length_take]; omega), da, List.length_take, show i - min i l.length = 0 by omega, List.drop_eq_getElem_cons h]; rfl
theorem fA {k : Int} {l : List α} {i : Nat} (h : i < l.length) : (ptL mk nx k l i).set i (mk (kL nx k (l.take i)) l[i]) = ptL mk nx k l (i + 1) := by
 unfold ptL
 rw [List.set_append_right _ _ (by rw [da, List.length_take]; omega), da, List.length_take, show i - min i l.length = 0 by omega, List.drop_eq_getElem_cons h, List.set_cons_zero, ed h, vu, List.append_assoc]; rfl
theorem eb (k : Int) (l : List α) : ptL mk nx k l l.length = mkL mk nx k l := by
 unfold ptL
 rw [List.take_length, List.drop_length, List.append_nil]
theorem aec {k : Int} {l : List α} {i : Nat} (h : i < l.length) : (mkL mk nx k l)[i]? = some (mk (kL nx k (l.take i)) l[i]) := by
 conv => lhs; rw [<- List.take_append_drop i l, vu]
 rw [List.getElem?_append_right (by rw [da, List.length_take]; omega), da, List.length_take, show i - min i l.length = 0 by omega, List.drop_eq_getElem_cons h]; rfl
theorem jm {c : Nat} : ∀ {l : List α} {k : Int}, (∀ x ∈ l, ∀ q, q <= nx q x /\ nx q x <= q + c) -> k <= kL nx k l /\ kL nx k l <= k + c * l.length
 | [], k, _ => by show k <= k /\ k <= k + _; simp
 | x :: r, k, h => by
   have h1 := h x List.mem_cons_self k
   have h2 := jm (l := r) (k := nx k x) (fun y hy => h y (List.mem_cons_of_mem _ hy))
   have e : kL nx k (x :: r) = kL nx (nx k x) r := rfl
   have e2 : (c : Int) * (((x :: r).length : Nat) : Int) = c * (r.length : Nat) + c := by rw [List.length_cons, Int.natCast_add, Int.mul_add]; simp
   rw [e, e2]
   omega
theorem bK {c : Nat} {l : List α} {k : Int} {i : Nat} {n : Nat} (hn : l.length <= n) (h : ∀ x ∈ l, ∀ q, q <= nx q x /\ nx q x <= q + c) (hi : i <= l.length) : k <= kL nx k (l.take i) /\ kL nx k (l.take i) <= k + c * n := by
 have h1 := jm (nx := nx) (c := c) (l := l.take i) (k := k) (fun x hx => h x (List.mem_of_mem_take hx))
 have h2 : (l.take i).length <= n := by rw [List.length_take]; omega
 have h3 : (c : Int) * ((l.take i).length : Nat) <= c * n := by exact_mod_cast Nat.mul_le_mul_left c h2
 omega
end
theorem aeH {α : Type} (ob : α -> bj) {l : List α} {ps : List (Nat × Nat)} {i : Nat} {p : Nat × Nat} {x : α} (hx : l[i]? = some x) (hp : ps[i]? = some p) : (nO ob l ps)[i]? = some (p.1, p.2, ob x) := by
 unfold nO
 rw [List.getElem?_zipWith, hx, hp]
theorem acK {α : Type} (mk : α -> Nat × Nat -> List TV) {l : List α} {ps : List (Nat × Nat)} {i : Nat} {p : Nat × Nat} {x : α} (hx : l[i]? = some x) (hp : ps[i]? = some p) : (nR mk l ps)[i]? = some (mk x p) := by
 unfold nR
 rw [List.getElem?_zipWith, hx, hp]
theorem nJ {α β γ : Type} (f : α -> β -> γ) : ∀ {l : List α} {ps : List β} {i : Nat} {p : β} {x : α}, ps[i]? = some p -> List.zipWith f (l.set i x) ps = (List.zipWith f l ps).set i (f x p)
 | [], _, _, _, _, _ => by simp
 | _ :: _, [], _, _, _, h => by simp at h
 | a :: l, q :: ps, 0, p, x, h => by simp at h; subst h; simp
 | a :: l, q :: ps, i + 1, p, x, h => by
   have := nJ f (l := l) (ps := ps) (i := i) (p := p) (x := x) (by simpa using h)
   simp [this]
theorem adc {α : Type} (mk : α -> Nat × Nat -> List TV) {l : List α} {ps : List (Nat × Nat)} {i : Nat} {p : Nat × Nat} {x : α} (hp : ps[i]? = some p) : nR mk (l.set i x) ps = (nR mk l ps).set i (mk x p) := nJ mk hp
theorem rv {α : Type} : ∀ {l : List α} {i : Nat} {x : α}, l[i]? = some x -> l.Perm (x :: l.eraseIdx i)
 | [], _, _, h => by simp at h
 | a :: l, 0, x, h => by simp at h; subst h; exact .refl _
 | a :: l, i + 1, x, h => by
   have := rv (l := l) (i := i) (x := x) (by simpa using h)
   exact (this.cons a).trans (.swap x a _)
theorem ng {α : Type} : ∀ (l : List α) (i : Nat) (x : α), (l.set i x).eraseIdx i = l.eraseIdx i
 | [], _, _ => rfl
 | a :: l, 0, x => rfl
 | a :: l, i + 1, x => by simp [ng l i x]
theorem aau {α : Type} (ob : α -> bj) {l : List α} {ps : List (Nat × Nat)} {i : Nat} {p : Nat × Nat} {x : α} (hx : l[i]? = some x) (hp : ps[i]? = some p) : (nO ob l ps).Perm ((p.1, p.2, ob x) :: (nO ob l ps).eraseIdx i) := rv (aeH ob hx hp)
theorem aeG {α : Type} (ob : α -> bj) {l : List α} {ps : List (Nat × Nat)} {i : Nat} {p : Nat × Nat} {x : α} (hl : i < l.length) (hp : ps[i]? = some p) : (nO ob (l.set i x) ps).Perm ((p.1, p.2, ob x) :: (nO ob l ps).eraseIdx i) := by
 have h := aau ob (l := l.set i x) (ps := ps) (i := i) (p := p) (x := x) (by rw [List.getElem?_set_self hl]) hp
 have e : (nO ob (l.set i x) ps).eraseIdx i = (nO ob l ps).eraseIdx i := by
   unfold nO
   rw [nJ _ hp, ng]
 rw [e] at h
 exact h
theorem wY {a z : Nat × Nat × bj} {N E : aH} (h : N.Perm (z :: E)) (R : aH) : de (z :: a :: (E ++ R)) (a :: (N ++ R)) := .perm (by
 have h1 : (a :: (N ++ R)).Perm (a :: z :: (E ++ R)) := ((h.append_right R)).cons a
 exact (List.Perm.swap a z _).trans h1.symm)
theorem aat {a z : Nat × Nat × bj} {N E : aH} (h : N.Perm (z :: E)) (R : aH) : de (a :: (N ++ R)) (z :: a :: (E ++ R)) := .perm (by
 have h1 : (a :: (N ++ R)).Perm (a :: z :: (E ++ R)) := ((h.append_right R)).cons a
 exact h1.trans (List.Perm.swap z a _))
theorem rd (A B C : aH) : de (B ++ (A ++ C)) (A ++ (B ++ C)) := .perm (by
 rw [<- List.append_assoc, <- List.append_assoc]
 exact List.perm_append_comm.append_right C)
def bM (k : Int) (_ : ByteArray) : ByteArray := jr k
def aQ (k : Int) (_ : ByteArray) : Int := k + 1
theorem dN (l : List ByteArray) : ∀ x ∈ l, ∀ q, q <= aQ q x /\ aQ q x <= q + (1 : Nat) := fun x _ q => by unfold aQ; omega
theorem abQ (l : List ByteArray) (k : Nat) (s : ByteArray) : (a8 l).set k [TV.str s] = a8 (l.set k s) := by simp [a8, List.map_set]
def gP (k : Int) (_ : ah) : ah := ⟨k, k + 1, k + 1 + 1, jr (k + 1 + 1 + 1)⟩
def cS (k : Int) (_ : ah) : Int := k + 1 + 1 + 1 + 1
theorem p5 (l : List ah) : ∀ x ∈ l, ∀ q, q <= cS q x /\ cS q x <= q + (4 : Nat) := fun x _ q => by unfold cS; omega
def gy (k : Int) (_ : az) : az := ⟨k, decide ((k + 1).tmod 3 = 0), jr (k + 1 + 1), k + 1 + 1 + 1⟩
def db (k : Int) (_ : az) : Int := k + 1 + 1 + 1 + 1
theorem pJ (l : List az) : ∀ x ∈ l, ∀ q, q <= db q x /\ db q x <= q + (4 : Nat) := fun x _ q => by unfold db; omega
def bp (k : Int) (x : aa) : aa := ⟨jr (k), k + 1, mkL bM aQ (k + 1 + 1) x.fields⟩
def aI (k : Int) (x : aa) : Int := kL aQ (k + 1 + 1) x.fields
theorem dD {l : List aa} (h : ∀ y ∈ l, aa.small 1048576 y) : ∀ x ∈ l, ∀ q, q <= aI q x /\ aI q x <= q + (1048578 : Nat) := fun x hx q => by
 have h1 := h x hx
 have h2 := h1.2.1
 have h3 := jm (nx := aQ) (l := x.fields) (k := q + 1 + 1) (dN _)
 unfold aI
 omega
def eS (k : Int) (x : aA) : aA := ⟨decide ((k).tmod 3 = 0), k + 1, k + 1 + 1, mkL gP cS (k + 1 + 1 + 1) x.instrs⟩
def cL (k : Int) (x : aA) : Int := kL cS (k + 1 + 1 + 1) x.instrs
theorem oE {l : List aA} (h : ∀ y ∈ l, aA.small 1048576 y) : ∀ x ∈ l, ∀ q, q <= cL q x /\ cL q x <= q + (4194307 : Nat) := fun x hx q => by
 have h1 := h x hx
 have h2 := h1.1
 have h3 := jm (nx := cS) (l := x.instrs) (k := q + 1 + 1 + 1) (p5 _)
 unfold cL
 omega
section
variable {G : World -> Prop}
theorem hH (hst : aB G) (s b : Nat) (l : List ByteArray) (k : Int) (hn : l.length <= 1099600000000) (hk : 0 <= k /\ k <= 1000000000000000) : CtM Tryz.prog G 19 [.ms s b 0 l.length, .int .i64 k] [(s, b, .row 1 (a8 (l)))] (fun _ : Unit => True) (fun _ => [(s, b, .row 1 (a8 (mkL bM aQ k l)))]) (fun _ => .int .i64 (kL aQ k l)) := by
 refine aC Tryz.func19 rfl Tryz.ntmps19 rfl rfl rfl fun w0 R gs objsR hG hR => ?_
 obtain rfl := hR.inv1
 clear hR
 repeat' refine W_ ?_
 apply ak (X := Nat) [0, 1000000] (fun x => [(5, .int .i64 (x : Int)), (1, .int .i64 (kL aQ k (l.take x)))]) (fun x => (s, b, .row 1 (a8 (ptL bM aQ k l x))) :: R) (fun x => x <= l.length) (fun x => l.length - x) 0 (Nat.zero_le _)
 exact kp_; exact nw_
 ·exact .refl _
 intro i hi
 try dsimp only
 have hq := bK (k := k) (i := i) hn (dN l) hi
 by_cases hlt : i < l.length
 ·have hrow : (a8 (ptL bM aQ k l i))[i]? = some ((fun s : ByteArray => [TV.str s]) l[i]) := by
    simp only [a8, List.getElem?_map, dP hlt]; rfl
  have hset : (a8 (ptL bM aQ k l i)).set i ((fun s : ByteArray => [TV.str s]) (bM (kL aQ k (l.take i)) l[i])) = a8 (ptL bM aQ k l (i + 1)) := by
    rw [<- fA hlt, abQ]
  have hks := eU (nx := aQ) (k := k) hlt
  have hrl : (a8 (ptL bM aQ k l i)).length = l.length := by simp [a8, cT hi]
  generalize a8 (ptL bM aQ k l i) = rows at hrow hset hrl |-
  generalize kL aQ k (l.take i) = q at hq hset hks |-
  generalize l[i] = x at hrow hset hks
  replace hrow : rows[i]? = some [.str x] := hrow
  have hks2 : kL aQ k (l.take (i + 1)) = q + 1 := hks
  repeat' (first | refine W_ ?_ | refine bE ?_ | ((with_reducible apply lR); rfl; kernel_rfl; (repeat (first | exact ca.nil | ((with_reducible apply ca.cons); rfl; exact .same _))); exact hG; exact hst; exact dq _ (by omega) (by omega)))
  refine ag (i + 1) (by omega) (by omega) (.of _ (dg.envCons rfl (dg.envCons (gf rfl (by rw [hks2])) dg.envNil)) od_ ?_)
  rw [<- hset]
  (try simp only [List.set_set])
  exact .refl _
 ·obtain rfl : i = l.length := by omega
  rw [eb, List.take_length]
  repeat' refine W_ ?_
  exact av x_ rfl () trivial rfl (.cons _ _ _ _ (.nil R)) pk_ (.tmp _ _ rfl) rfl
theorem fm (hst : aB G) (s b : Nat) (l : List ByteArray) (k : Int) (hn : l.length <= 1048576) (hk : 0 <= k /\ k <= 1000000000000000) : CtM Tryz.prog G 19 [.ms s b 0 l.length, .int .i64 k] [(s, b, .row 1 (a8 (l)))] (fun _ : Unit => True) (fun _ => [(s, b, .row 1 (a8 (mkL bM aQ k l)))]) (fun _ => .int .i64 (kL aQ k l)) := hH hst s b l k (by omega) hk
theorem pv (hst : aB G) (s b : Nat) (l : List ah) (k : Int) (hn : l.length <= 1048576) (hk : 0 <= k /\ k <= 1000000000000000) : CtM Tryz.prog G 211 [.ms s b 0 l.length, .int .i64 k] [(s, b, .row 4 ((l).map (ah.tw 0)))] (fun _ : Unit => True) (fun _ => [(s, b, .row 4 ((mkL gP cS k l).map (ah.tw 0)))]) (fun _ => .int .i64 (kL cS k l)) := by
 refine aC Tryz.func211 rfl Tryz.ntmps211 rfl rfl rfl fun w0 R gs objsR hG hR => ?_
 obtain rfl := hR.inv1
 clear hR
 repeat' refine W_ ?_
 apply ak (X := Nat) [0, 1000000] (fun x => [(5, .int .i64 (x : Int)), (1, .int .i64 (kL cS k (l.take x)))]) (fun x => (s, b, .row 4 ((ptL gP cS k l x).map (ah.tw 0))) :: R) (fun x => x <= l.length) (fun x => l.length - x) 0 (Nat.zero_le _)
 exact kp_; exact nw_
 ·exact .refl _
 intro i hi
 try dsimp only
 have hq := bK (k := k) (i := i) hn (p5 l) hi
 by_cases hlt : i < l.length
 ·have hrow : ((ptL gP cS k l i).map (ah.tw 0))[i]? = some ((ah.tw 0) l[i]) := by
    simp only [a8, List.getElem?_map, dP hlt]; rfl
  have hset : ((ptL gP cS k l i).map (ah.tw 0)).set i ((ah.tw 0) (gP (kL cS k (l.take i)) l[i])) = (ptL gP cS k l (i + 1)).map (ah.tw 0) := by
    rw [<- fA hlt, List.map_set]
  have hks := eU (nx := cS) (k := k) hlt
  have hrl : ((ptL gP cS k l i).map (ah.tw 0)).length = l.length := by simp [a8, cT hi]
  generalize (ptL gP cS k l i).map (ah.tw 0) = rows at hrow hset hrl |-
  generalize kL cS k (l.take i) = q at hq hset hks |-
  generalize l[i] = x at hrow hset hks
  replace hrow : rows[i]? = some [.int .i64 x.op, .int .i64 x.a, .int .i64 x.b, .str x.text] := hrow
  have hr1 : (rows.set i [.int .i64 q, .int .i64 x.a, .int .i64 x.b, .str x.text])[i]? = some [.int .i64 q, .int .i64 x.a, .int .i64 x.b, .str x.text] := by rw [List.getElem?_set_self (by omega)]
  have hks2 : kL cS k (l.take (i + 1)) = q + 1 + 1 + 1 + 1 := hks
  repeat' (first | refine W_ ?_ | refine bE ?_ | ((with_reducible apply lR); rfl; kernel_rfl; (repeat (first | exact ca.nil | ((with_reducible apply ca.cons); rfl; exact .same _))); exact hG; exact hst; exact dq _ (by omega) (by omega)))
  refine ag (i + 1) (by omega) (by omega) (.of _ (dg.envCons rfl (dg.envCons (gf rfl (by rw [hks2])) dg.envNil)) od_ ?_)
  rw [<- hset]
  (try simp only [List.set_set])
  exact .refl _
 ·obtain rfl : i = l.length := by omega
  rw [eb, List.take_length]
  repeat' refine W_ ?_
  exact av x_ rfl () trivial rfl (.cons _ _ _ _ (.nil R)) pk_ (.tmp _ _ rfl) rfl
theorem oZ (hst : aB G) (s b : Nat) (l : List az) (k : Int) (hn : l.length <= 1048576) (hk : 0 <= k /\ k <= 1000000000000000) : CtM Tryz.prog G 133 [.ms s b 0 l.length, .int .i64 k] [(s, b, .row 4 ((l).map (az.tw 0)))] (fun _ : Unit => True) (fun _ => [(s, b, .row 4 ((mkL gy db k l).map (az.tw 0)))]) (fun _ => .int .i64 (kL db k l)) := by
 refine aC Tryz.func133 rfl Tryz.ntmps133 rfl rfl rfl fun w0 R gs objsR hG hR => ?_
 obtain rfl := hR.inv1
 clear hR
 repeat' refine W_ ?_
 apply ak (X := Nat) [0, 1000000] (fun x => [(5, .int .i64 (x : Int)), (1, .int .i64 (kL db k (l.take x)))]) (fun x => (s, b, .row 4 ((ptL gy db k l x).map (az.tw 0))) :: R) (fun x => x <= l.length) (fun x => l.length - x) 0 (Nat.zero_le _)
 exact kp_; exact nw_
 ·exact .refl _
 intro i hi
 try dsimp only
 have hq := bK (k := k) (i := i) hn (pJ l) hi
 by_cases hlt : i < l.length
 ·have hrow : ((ptL gy db k l i).map (az.tw 0))[i]? = some ((az.tw 0) l[i]) := by
    simp only [a8, List.getElem?_map, dP hlt]; rfl
  have hset : ((ptL gy db k l i).map (az.tw 0)).set i ((az.tw 0) (gy (kL db k (l.take i)) l[i])) = (ptL gy db k l (i + 1)).map (az.tw 0) := by
    rw [<- fA hlt, List.map_set]
  have hks := eU (nx := db) (k := k) hlt
  have hrl : ((ptL gy db k l i).map (az.tw 0)).length = l.length := by simp [a8, cT hi]
  generalize (ptL gy db k l i).map (az.tw 0) = rows at hrow hset hrl |-
  generalize kL db k (l.take i) = q at hq hset hks |-
  generalize l[i] = x at hrow hset hks
  replace hrow : rows[i]? = some [.int .i64 x.owner, .bool x.class_, .str x.selector, .int .i64 x.code] := hrow
  have hr1 : (rows.set i [.int .i64 q, .bool x.class_, .str x.selector, .int .i64 x.code])[i]? = some [.int .i64 q, .bool x.class_, .str x.selector, .int .i64 x.code] := by rw [List.getElem?_set_self (by omega)]
  have hks2 : kL db k (l.take (i + 1)) = q + 1 + 1 + 1 + 1 := hks
  repeat' (first | refine W_ ?_ | refine bE ?_ | ((with_reducible apply lR); rfl; kernel_rfl; (repeat (first | exact ca.nil | ((with_reducible apply ca.cons); rfl; exact .same _))); exact hG; exact hst; exact dq _ (by omega) (by omega)))
  refine ag (i + 1) (by omega) (by omega) (.of _ (dg.envCons rfl (dg.envCons (gf rfl (by rw [hks2])) dg.envNil)) od_ ?_)
  rw [<- hset]
  (try simp only [List.set_set])
  exact .refl _
 ·obtain rfl : i = l.length := by omega
  rw [eb, List.take_length]
  repeat' refine W_ ?_
  exact av x_ rfl () trivial rfl (.cons _ _ _ _ (.nil R)) pk_ (.tmp _ _ rfl) rfl
theorem fH (hst : aB G) (s b : Nat) (l : List aa) (ps : List (Nat × Nat)) (hps : ps.length = l.length) (k : Int) (hn : l.length <= 1048576 /\ ∀ y ∈ l, aa.small 1048576 y) (hk : 0 <= k /\ k <= 100000000000000) :
   CtM Tryz.prog G 131 [.ms s b 0 l.length, .int .i64 k] ((s, b, .row 3 (nR jp l ps)) :: nO lx l ps) (fun _ : Unit => True) (fun _ => (s, b, .row 3 (nR jp (mkL bp aI k l) ps)) :: nO lx (mkL bp aI k l) ps) (fun _ => .int .i64 (kL aI k l)) := by
 refine aC Tryz.func131 rfl Tryz.ntmps131 rfl rfl rfl fun w0 R gs objsR hG hR => ?_
 obtain rfl := hR.eq
 clear hR
 obtain ⟨hn, hsm⟩ := hn
 repeat' refine W_ ?_
 apply ak (X := Nat) [0, 1000000] (fun x => [(5, .int .i64 (x : Int)), (1, .int .i64 (kL aI k (l.take x)))]) (fun x => (s, b, .row 3 (nR jp (ptL bp aI k l x) ps)) :: (nO lx (ptL bp aI k l x) ps ++ R)) (fun x => x <= l.length) (fun x => l.length - x) 0 (Nat.zero_le _)
 exact kp_; exact nw_
 ·exact .refl _
 intro i hi
 try dsimp only
 have hq := bK (k := k) (i := i) hn (dD hsm) hi
 by_cases hlt : i < l.length
 ·obtain ⟨p, hp⟩ : ∃ p, ps[i]? = some p := ⟨_, List.getElem?_eq_getElem (by omega)⟩
  have hpl : i < (ptL bp aI k l i).length := by rw [cT hi]; exact hlt
  have hrow := acK jp (dP (mk := bp) (nx := aI) (k := k) hlt) hp
  have hset := adc jp (l := ptL bp aI k l i) (x := bp (kL aI k (l.take i)) l[i]) hp
  have hout := aau lx (dP (mk := bp) (nx := aI) (k := k) hlt) hp
  have hin := aeG lx (x := bp (kL aI k (l.take i)) l[i]) hpl hp
  rw [fA hlt] at hset hin
  have hks := eU (nx := aI) (k := k) hlt
  have hrl : (nR jp (ptL bp aI k l i) ps).length = l.length := by rw [acL _ (by rw [cT hi]; exact hps), cT hi]
  have hb := hsm _ (List.getElem_mem hlt)
  generalize (nO lx (ptL bp aI k l i) ps).eraseIdx i = E at hout hin
  generalize nO lx (ptL bp aI k l i) ps = N0 at hout |-
  generalize nR jp (ptL bp aI k l i) ps = rows at hrow hset hrl |-
  generalize kL aI k (l.take i) = q at hq hset hks hin |-
  generalize l[i] = x at hrow hset hks hout hin hb
  replace hrow : rows[i]? = some [.str x.name, .int .i64 x.parent, .ms p.1 p.2 0 x.fields.length] := hrow
  have hr1 : (rows.set i [.str (jr (q)), .int .i64 x.parent, .ms p.1 p.2 0 x.fields.length])[i]? = some [.str (jr (q)), .int .i64 x.parent, .ms p.1 p.2 0 x.fields.length] := by rw [List.getElem?_set_self (by omega)]
  have hct := fm hst p.1 p.2 x.fields (q + 1 + 1) hb.2.1 (by omega)
  repeat' (first | refine W_ ?_ | refine bE ?_ | ((with_reducible apply lR); rfl; kernel_rfl; (repeat (first | exact ca.nil | ((with_reducible apply ca.cons); rfl; exact .same _))); exact hG; exact hst; exact dq _ (by omega) (by omega)))
  refine jM (wY hout R) ?_
  repeat' (first | refine W_ ?_ | ((with_reducible apply aG); rfl; kernel_rfl; (repeat (first | exact aF.nil | ((with_reducible apply aF.cons); rfl))); exact hG; exact hct; exact .cons _ _ _ _ (.nil _); intro y hy; refine bm ?_))
  refine ag (i + 1) (by omega) (by omega) (.of _ (dg.envCons rfl (dg.envCons (gf rfl (by rw [hks]; rfl)) dg.envNil)) od_ ?_)
  rw [hset]
  simp only [List.set_set]
  have hcl : jp (bp q x) p = [.str (jr (q)), .int .i64 (q + 1), .ms p.1 p.2 0 x.fields.length] := by
    unfold jp bp
    dsimp only
    rw [da]
  rw [hcl]
  exact aat hin R
 ·obtain rfl : i = l.length := by omega
  rw [eb, List.take_length]
  repeat' refine W_ ?_
  exact av x_ rfl () trivial rfl (.cons _ _ _ _ (.app _ R)) (.refl _) (.tmp _ _ rfl) rfl
theorem rf (hst : aB G) (s b : Nat) (l : List aA) (ps : List (Nat × Nat)) (hps : ps.length = l.length) (k : Int) (hn : l.length <= 1048576 /\ ∀ y ∈ l, aA.small 1048576 y) (hk : 0 <= k /\ k <= 100000000000000) :
   CtM Tryz.prog G 132 [.ms s b 0 l.length, .int .i64 k] ((s, b, .row 4 (nR jl l ps)) :: nO lB l ps) (fun _ : Unit => True) (fun _ => (s, b, .row 4 (nR jl (mkL eS cL k l) ps)) :: nO lB (mkL eS cL k l) ps) (fun _ => .int .i64 (kL cL k l)) := by
 refine aC Tryz.func132 rfl Tryz.ntmps132 rfl rfl rfl fun w0 R gs objsR hG hR => ?_
 obtain rfl := hR.eq
 clear hR
 obtain ⟨hn, hsm⟩ := hn
 repeat' refine W_ ?_
 apply ak (X := Nat) [0, 1000000] (fun x => [(5, .int .i64 (x : Int)), (1, .int .i64 (kL cL k (l.take x)))]) (fun x => (s, b, .row 4 (nR jl (ptL eS cL k l x) ps)) :: (nO lB (ptL eS cL k l x) ps ++ R)) (fun x => x <= l.length) (fun x => l.length - x) 0 (Nat.zero_le _)
 exact kp_; exact nw_
 ·exact .refl _
 intro i hi
 try dsimp only
 have hq := bK (k := k) (i := i) hn (oE hsm) hi
 by_cases hlt : i < l.length
 ·obtain ⟨p, hp⟩ : ∃ p, ps[i]? = some p := ⟨_, List.getElem?_eq_getElem (by omega)⟩
  have hpl : i < (ptL eS cL k l i).length := by rw [cT hi]; exact hlt
  have hrow := acK jl (dP (mk := eS) (nx := cL) (k := k) hlt) hp
  have hset := adc jl (l := ptL eS cL k l i) (x := eS (kL cL k (l.take i)) l[i]) hp
  have hout := aau lB (dP (mk := eS) (nx := cL) (k := k) hlt) hp
  have hin := aeG lB (x := eS (kL cL k (l.take i)) l[i]) hpl hp
  rw [fA hlt] at hset hin
  have hks := eU (nx := cL) (k := k) hlt
  have hrl : (nR jl (ptL eS cL k l i) ps).length = l.length := by rw [acL _ (by rw [cT hi]; exact hps), cT hi]
  have hb := hsm _ (List.getElem_mem hlt)
  generalize (nO lB (ptL eS cL k l i) ps).eraseIdx i = E at hout hin
  generalize nO lB (ptL eS cL k l i) ps = N0 at hout |-
  generalize nR jl (ptL eS cL k l i) ps = rows at hrow hset hrl |-
  generalize kL cL k (l.take i) = q at hq hset hks hin |-
  generalize l[i] = x at hrow hset hks hout hin hb
  replace hrow : rows[i]? = some [.bool x.block, .int .i64 x.params, .int .i64 x.slots, .ms p.1 p.2 0 x.instrs.length] := hrow
  have hr1 : (rows.set i [.bool (decide ((q).tmod 3 = 0)), .int .i64 x.params, .int .i64 x.slots, .ms p.1 p.2 0 x.instrs.length])[i]? = some [.bool (decide ((q).tmod 3 = 0)), .int .i64 x.params, .int .i64 x.slots, .ms p.1 p.2 0 x.instrs.length] := by rw [List.getElem?_set_self (by omega)]
  have hct := pv hst p.1 p.2 x.instrs (q + 1 + 1 + 1) hb.1 (by omega)
  repeat' (first | refine W_ ?_ | refine bE ?_)
  refine jM (wY hout R) ?_
  repeat' (first | refine W_ ?_ | ((with_reducible apply aG); rfl; kernel_rfl; (repeat (first | exact aF.nil | ((with_reducible apply aF.cons); rfl))); exact hG; exact hct; exact .cons _ _ _ _ (.nil _); intro y hy; refine bm ?_))
  refine ag (i + 1) (by omega) (by omega) (.of _ (dg.envCons rfl (dg.envCons (gf rfl (by rw [hks]; rfl)) dg.envNil)) od_ ?_)
  rw [hset]
  simp only [List.set_set]
  have hcl : jl (eS q x) p = [.bool (decide ((q).tmod 3 = 0)), .int .i64 (q + 1), .int .i64 (q + 1 + 1), .ms p.1 p.2 0 x.instrs.length] := by
    unfold jl eS
    dsimp only
    rw [da]
  rw [hcl]
  exact aat hin R
 ·obtain rfl : i = l.length := by omega
  rw [eb, List.take_length]
  repeat' refine W_ ?_
  exact av x_ rfl () trivial rfl (.cons _ _ _ _ (.app _ R)) (.refl _) (.tmp _ _ rfl) rfl
end
def aev (l : List aa) (y : (Nat × Nat) × List (Nat × Nat)) : aH := (y.1.1, y.1.2, .row 3 (nR jp l y.2)) :: nO lx l y.2
def afX (l : List aA) (y : (Nat × Nat) × List (Nat × Nat)) : aH := (y.1.1, y.1.2, .row 4 (nR jl l y.2)) :: nO lB l y.2
def afF (l : List az) (y : Nat × Nat) : aH := [(y.1, y.2, .row 4 (l.map (az.tw 0)))]
def CbP : Type := ((Nat × Nat) × List (Nat × Nat)) × ((Nat × Nat) × List (Nat × Nat)) × (Nat × Nat)
def cbO (x : aw) (y : CbP) : aH := aev x.classes y.1 ++ (afX x.codes y.2.1 ++ afF x.entries y.2.2)
def cbC (x : aw) (y : CbP) : List TV := [.ms y.1.1.1 y.1.1.2 0 x.classes.length, .ms y.2.1.1.1 y.2.1.1.2 0 x.codes.length, .ms y.2.2.1 y.2.2.2 0 x.entries.length, .int .i64 x.main]
def cbI (x : aw) (y : CbP) : Prop := y.1.2.length = x.classes.length /\ y.2.1.2.length = x.codes.length
theorem kM (A : aH) (x z : Nat × Nat × bj) (R : aH) : de (x :: z :: (A ++ R)) (A ++ (x :: z :: R)) := .perm (by
 have h1 : (A ++ (x :: z :: R)).Perm (x :: (A ++ (z :: R))) := List.perm_middle
 have h2 : (A ++ (z :: R)).Perm (z :: (A ++ R)) := List.perm_middle
 exact (h1.trans (h2.cons x)).symm)
theorem ws (A : aH) (x z : Nat × Nat × bj) (R : aH) : de (A ++ (x :: z :: R)) (x :: z :: (A ++ R)) := .perm (by
 have h1 : (A ++ (x :: z :: R)).Perm (x :: (A ++ (z :: R))) := List.perm_middle
 have h2 : (A ++ (z :: R)).Perm (z :: (A ++ R)) := List.perm_middle
 exact h1.trans (h2.cons x))
theorem vK (A B C R : aH) : ((A ++ (B ++ C)) ++ R).Perm (C ++ (B ++ (A ++ R))) := by
 have h1 : (A ++ (B ++ C)).Perm (C ++ (B ++ A)) := by
   have : (A ++ (B ++ C)).Perm ((B ++ C) ++ A) := List.perm_append_comm
   refine this.trans ?_
   have h2 : ((B ++ C) ++ A).Perm ((C ++ B) ++ A) := (List.perm_append_comm).append_right A
   rw [List.append_assoc] at h2
   rw [List.append_assoc] at h2 |-
   exact h2
 have h3 := h1.append_right R
 simpa [List.append_assoc] using h3
theorem rj (A B C R : aH) : de (C ++ (A ++ (B ++ R))) (B ++ (A ++ (C ++ R))) := .perm (by
 have h1 : (C ++ (A ++ B)).Perm (B ++ (A ++ C)) := by
   have h := (vK C A B [])
   simpa using h
 simpa [List.append_assoc] using h1.append_right R)
theorem qx (A B C R : aH) : de (A ++ (B ++ (C ++ R))) (C ++ (A ++ (B ++ R))) := .perm (by
 have h1 : (A ++ (B ++ C)).Perm (C ++ (A ++ B)) := by
   rw [<- List.append_assoc]
   exact List.perm_append_comm
 simpa [List.append_assoc] using h1.append_right R)
section
variable {G : World -> Prop}
theorem px (hst : aB G) (lo : Nat) (x : aw) (hb : x.small 1048576) : CtM Tryz.prog G 36 [.agg (x.tw lo)] [] (cbI x) (cbO x) (fun y => .agg (cbC x y)) := by
 refine aC Tryz.func36 rfl Tryz.ntmps36 rfl rfl rfl fun w0 R gs objsR hG hR => ?_
 obtain rfl := hR.inv0
 clear hR
 have c1 := gY hst lo x.classes hb.1
 have c2 := uR hst lo x.codes hb.2.1
 have c3 := sY hst lo x.entries hb.2.2
 unfold aw.tw
 repeat' (first | refine W_ ?_ | refine aD ?_ | (refine aj ?_; intro ss bb) | refine ac ?_ | ((with_reducible apply aG); rfl; kernel_rfl; (repeat (first | exact aF.nil | ((with_reducible apply aF.cons); rfl))); exact hG; (first | exact c1 | exact c2 | exact c3); exact .nil _; intro y hy; refine cI (kM _ _ _ _) ?_))
 rename_i yc hyc yd hyd
 refine av (t1 := .agg [.ms yc.1.1 yc.1.2 0 x.classes.length, .ms yd.1.1 yd.1.2 0 x.codes.length, .ms y.1 y.2 0 x.entries.length, .int .i64 x.main]) x_ rfl (yc, yd, y) ⟨hyc, hyd⟩ rfl (.app _ R) (.drop (.drop (.perm (vK _ _ _ R)))) (.cell _ _ _ _ _ rfl mm_ (by kernel_rfl) (by kernel_rfl) (by kernel_rfl)) rfl
def eo (k : Int) (x : aw) : aw := ⟨mkL bp aI k x.classes, mkL eS cL (kL aI k x.classes) x.codes, mkL gy db (kL cL (kL aI k x.classes) x.codes) x.entries, x.main⟩
def bs (k : Int) (x : aw) : Int := kL db (kL cL (kL aI k x.classes) x.codes) x.entries
theorem kX {x : aw} (hb : x.small 1048576) (k : Int) : k <= bs k x /\ bs k x <= k + 6000000000000 := by
 have h1 := bK (k := k) (i := x.classes.length) hb.1.1 (dD hb.1.2) (Nat.le_refl _)
 have h2 := bK (k := kL aI k x.classes) (i := x.codes.length) hb.2.1.1 (oE hb.2.1.2) (Nat.le_refl _)
 have h3 := bK (k := kL cL (kL aI k x.classes) x.codes) (i := x.entries.length) hb.2.2.1 (pJ x.entries) (Nat.le_refl _)
 rw [List.take_length] at h1 h2 h3
 unfold bs
 omega
theorem mw (hst : aB G) (x : aw) (y : CbP) (hy : cbI x y) (hb : x.small 1048576) (k : Int) (hk : 0 <= k /\ k <= 50000000000000) :
   CtM Tryz.prog G 51 [.agg (cbC x y), .int .i64 k] (cbO x y) (fun _ : Unit => True) (fun _ => cbO (eo k x) y) (fun _ => .int .i64 (bs k x)) := by
 refine aC Tryz.func51 rfl Tryz.ntmps51 rfl rfl rfl fun w0 R gs objsR hG hR => ?_
 obtain rfl := hR.eq
 clear hR
 have h1 := bK (k := k) (i := x.classes.length) hb.1.1 (dD hb.1.2) (Nat.le_refl _)
 have h2 := bK (k := kL aI k x.classes) (i := x.codes.length) hb.2.1.1 (oE hb.2.1.2) (Nat.le_refl _)
 rw [List.take_length] at h1 h2
 have c1 := fH hst y.1.1.1 y.1.1.2 x.classes y.1.2 hy.1 k hb.1 (by omega)
 have c2 := rf hst y.2.1.1.1 y.2.1.1.2 x.codes y.2.1.2 hy.2 (kL aI k x.classes) hb.2.1 (by omega)
 have c3 := oZ hst y.2.2.1 y.2.2.2 x.entries (kL cL (kL aI k x.classes) x.codes) hb.2.2.1 (by omega)
 have e0 : cbO x y ++ R = aev x.classes y.1 ++ (afX x.codes y.2.1 ++ (afF x.entries y.2.2 ++ R)) := by unfold cbO; simp [List.append_assoc]
 have e1 : cbO (eo k x) y ++ R = aev (eo k x).classes y.1 ++ (afX (eo k x).codes y.2.1 ++ (afF (eo k x).entries y.2.2 ++ R)) := by unfold cbO; simp [List.append_assoc]
 rw [e0]
 unfold cbC
 repeat' (first | refine W_ ?_ | refine aD ?_ | ((with_reducible apply aG); rfl; kernel_rfl; (repeat (first | exact aF.nil | ((with_reducible apply aF.cons); rfl))); exact hG; exact c1; exact .app _ _; intro z hz; refine cI (rd _ _ _) ?_) | ((with_reducible apply aG); rfl; kernel_rfl; (repeat (first | exact aF.nil | ((with_reducible apply aF.cons); rfl))); exact hG; exact c2; exact .app _ _; intro z hz; refine cI (rj _ _ _ _) ?_) | ((with_reducible apply aG); rfl; kernel_rfl; (repeat (first | exact aF.nil | ((with_reducible apply aF.cons); rfl))); exact hG; exact c3; exact .app _ _; intro z hz))
 refine av x_ rfl () trivial rfl (.app _ R) ?_ (.tmp _ _ rfl) rfl
 rw [e1]
 exact qx _ _ _ R
end
section
variable {G : World -> Prop}
theorem jx (hst : aB G) (lo : Nat) (l : List ByteArray) (k : Int) (hn : l.length <= 1099600000000) (hk : 0 <= k /\ k <= 1000000000000000) : Ct Tryz.prog G 20 [.sl lo 1 (a8 (mkL bM aQ k l)), .int .i64 k] (fun _ => .int .i64 (kL aQ k l)) := by
 refine am Tryz.func20 rfl Tryz.ntmps20 rfl rfl fun w0 _ hG => ?_
 have hrl : (a8 (mkL bM aQ k l)).length = l.length := by simp [a8, da]
 have hget := fun i (h : i < l.length) => aec (mk := bM) (nx := aQ) (k := k) h
 have hgr : ∀ i (h : i < l.length), (a8 (mkL bM aQ k l))[i]? = some [.str (jr (kL aQ k (l.take i)))] := fun i h => by
   simp only [a8, List.getElem?_map, hget i h]; rfl
 generalize a8 (mkL bM aQ k l) = rows at hrl hgr |-
 repeat' refine W_ ?_
 apply ak (X := Nat) [0] (fun x => [(5, .int .i64 (x : Int)), (1, .int .i64 (kL aQ k (l.take x)))]) (fun _ => []) (fun x => x <= l.length) (fun x => l.length - x) 0 (Nat.zero_le _)
 exact kp_; exact nw_
 ·exact .refl _
 intro i hi
 try dsimp only
 have hq := bK (k := k) (i := i) hn (dN l) hi
 by_cases hlt : i < l.length
 ·have hrow := hgr i hlt
  have hks : kL aQ k (l.take (i + 1)) = kL aQ k (l.take i) + 1 := eU hlt
  generalize kL aQ k (l.take i) = q at hq hrow hks |-
  have hs0 : ¬ jr (q) ≠ jr (q) := fun h => h rfl
  have hm0 := dq (G := G) (q) (by omega) (by omega)
  repeat' (first | refine V_ ?_ | refine ae hG hst (hm0) ?_)
  all_goals first
    | exact ag (i + 1) (by omega) (by omega) (.of _ (dg.envCons rfl (dg.envCons (gf rfl (by rw [hks])) dg.envNil)) od_ pk_)
    | (exfalso; simp_all; done)
 ·obtain rfl : i = l.length := by omega
  rw [List.take_length]
  repeat' refine W_ ?_
  exact r1_
theorem rq (hst : aB G) (lo : Nat) (l : List ByteArray) (k : Int) (hn : l.length <= 1048576) (hk : 0 <= k /\ k <= 1000000000000000) : Ct Tryz.prog G 20 [.sl lo 1 (a8 (mkL bM aQ k l)), .int .i64 k] (fun _ => .int .i64 (kL aQ k l)) := jx hst lo l k (by omega) hk
end
def o7 (objs : aH) (l l' : List TV) : Prop := l'.length = l.length /\ ∀ (j : Nat) (t t' : TV), l[j]? = some t -> l'[j]? = some t' -> bU objs t t'
theorem o7.nil {objs : aH} : o7 objs [] [] := ⟨rfl, by simp⟩
theorem o7.cons {objs : aH} {t t' : TV} {l l' : List TV} (h : bU objs t t') (hr : o7 objs l l') : o7 objs (t :: l) (t' :: l') := ⟨by simp [hr.1], fun j u u' h1 h2 => by
 cases j with
 | zero => simp at h1 h2; subst h1; subst h2; exact h
 | succ j => exact hr.2 j u u' (by simpa using h1) (by simpa using h2)⟩
theorem o7.append {objs : aH} {a a' b b' : List TV} (h : o7 objs a a') (k : o7 objs b b') : o7 objs (a ++ b) (a' ++ b') := ⟨by simp [h.1, k.1], fun j u u' h1 h2 => by
 by_cases hj : j < a.length
 ·rw [List.getElem?_append_left hj] at h1
  rw [List.getElem?_append_left (by rw [h.1]; exact hj)] at h2
  exact h.2 j u u' h1 h2
 ·rw [List.getElem?_append_right (by omega)] at h1
  rw [List.getElem?_append_right (by rw [h.1]; omega)] at h2
  rw [h.1] at h2
  exact k.2 _ u u' h1 h2⟩
section
variable {G : World -> Prop}
end
section
variable {G : World -> Prop}
end
section
variable {G : World -> Prop}
end
section
variable {G : World -> Prop}
end
end Go.Proofs.YtofnnnpahglfdaaGreatDoor
