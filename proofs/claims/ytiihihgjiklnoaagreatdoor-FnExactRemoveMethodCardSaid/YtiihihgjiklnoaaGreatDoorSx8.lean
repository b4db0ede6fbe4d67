/- Part 8 of the proof. -/
import Derived.Test.YtiihihgjiklnoaaGreatDoorSx3
import Derived.Test.YtiihihgjiklnoaaGreatDoorSx4
import Derived.Test.YtiihihgjiklnoaaGreatDoorSx2
set_option maxHeartbeats 2000000
set_option maxRecDepth 20000
namespace Go.Proofs.YtiihihgjiklnoaaGreatDoor
open Go Go.RowKit
mutual
def PT.tvs : PT -> List TV
 | .int k n => [.int k n]
 | .bool b => [.bool b]
 | .str s => [.str s]
 | .agg l => PT.tvsL l
 | .sl _ _ m l => [.sl 0 m (PT.rowsL l)]
def PT.tvsL : List PT -> List TV
 | [] => []
 | t :: r => PT.tvs t ++ PT.tvsL r
def PT.rowsL : List PT -> List (List TV)
 | [] => []
 | t :: r => PT.tvs t :: PT.rowsL r
end
theorem PT.rowsL_map (l : List PT) : PT.rowsL l = l.map PT.tvs := by
 induction l with
 | nil => rfl
 | cons t r ih => simp [PT.rowsL, ih]
theorem PT.rows_flat (l : List PT) : (PT.rowsL l).flatten = PT.tvsL l := by
 induction l with
 | nil => rfl
 | cons t r ih => simp [PT.rowsL, PT.tvsL, ih]
def abT (w : World) (ts : List TV) (vs : List Value) : Prop := ts.length = vs.length /\ (∀ t ∈ ts, t.isCell = true) /\ ∀ (i : Nat) (t : TV) (v : Value), ts[i]? = some t -> vs[i]? = some v -> Rep w [] t v
theorem abT.append {w : World} {a b : List TV} {x y : List Value} (h : abT w a x) (k : abT w b y) : abT w (a ++ b) (x ++ y) := by
 refine ⟨by simp [h.1, k.1], fun t ht => ?_, fun i t v ht hv => ?_⟩
 ·rcases List.mem_append.1 ht with ht | ht
  ·exact h.2.1 t ht
  ·exact k.2.1 t ht
 ·by_cases hi : i < a.length
  ·rw [List.getElem?_append_left hi] at ht
   rw [List.getElem?_append_left (by rw [<- h.1]; exact hi)] at hv
   exact h.2.2 i t v ht hv
  ·rw [List.getElem?_append_right (by omega)] at ht
   rw [List.getElem?_append_right (by rw [<- h.1]; omega)] at hv
   rw [<- h.1] at hv
   exact k.2.2 _ t v ht hv
theorem abT.one {w : World} {t : TV} {v : Value} (h : Rep w [] t v) (hc : t.isCell = true) : abT w [t] [v] := ⟨rfl, by simpa using hc, fun i u x hu hx => by
 cases i with
 | zero => simp at hu hx; subst hu; subst hx; exact h
 | succ i => simp at hu⟩
mutual
theorem abO (w : World) (S : Nat -> Prop) : ∀ t : PT, ed w S t -> abT w t.tvs t.cells
 | .int k n, _ => .one (.int k n) rfl
 | .bool b, _ => .one (.bool b) rfl
 | .str s, _ => .one (.str s) rfl
 | .agg l, h => by
   simp only [PT.tvs, PT.cells]
   simp only [ed] at h
   exact z7 w S l h
 | .sl A c m l, h => by
   simp only [PT.tvs, PT.cells]
   simp only [ed] at h
   obtain ⟨h1, h2, h3, h4, h5⟩ := h
   have h6 := z7 w S l h5
   have hlen : (PT.rowsL l).length = l.length := by rw [PT.rowsL_map]; simp
   refine .one ?_ rfl
   have key : ∀ j, ∃ u, ∀ t, (PT.tvsL l)[j]? = some t -> ∃ b o, A = some ⟨b, o, none⟩ /\ w.cell? ⟨b, o + j, none⟩ = some u /\ Rep w [] t u := fun j => by
     cases hj : (PT.cellsL l)[j]? with
     | none =>
       refine ⟨undef, fun t ht => ?_⟩
       have : j < (PT.tvsL l).length := (List.getElem?_eq_some_iff.1 ht).1
       rw [h6.1] at this
       rw [List.getElem?_eq_getElem this] at hj; cases hj
     | some u =>
       refine ⟨u, fun t ht => ?_⟩
       obtain ⟨b, o, e1, _, e2⟩ := h3 j u hj
       exact ⟨b, o, e1, e2, h6.2.2 j t u ht hj⟩
   have hr := Rep.sl (w := w) (objs := []) 0 m (PT.rowsL l) A c (by omega) h2 (fun r hr => by
       rw [PT.rowsL_map] at hr
       obtain ⟨t, ht, rfl⟩ := List.mem_map.1 hr
       rw [<- h4 t ht]
       exact (tV w S l h5 t ht).1) (fun t ht => by rw [PT.rows_flat] at ht; exact h6.2.1 t ht) (fun j => Classical.choose (key j))
     (fun j t hj => by
       rw [PT.rows_flat] at hj
       obtain ⟨b, o, e1, e2, _⟩ := Classical.choose_spec (key j) t hj
       exact ⟨b, o, e1, tD b, e2⟩)
     (fun j t hj => by
       rw [PT.rows_flat] at hj
       obtain ⟨b, o, _, _, e3⟩ := Classical.choose_spec (key j) t hj
       exact e3)
   rw [hlen] at hr
   exact hr
theorem z7 (w : World) (S : Nat -> Prop) : ∀ l : List PT, cJ w S l -> abT w (PT.tvsL l) (PT.cellsL l)
 | [], _ => ⟨rfl, by simp [PT.tvsL], by simp [PT.tvsL]⟩
 | t :: r, h => by
   simp only [PT.tvsL, PT.cellsL]
   simp only [cJ] at h
   exact (abO w S t h.1).append (z7 w S r h.2)
theorem tV (w : World) (S : Nat -> Prop) : ∀ l : List PT, cJ w S l -> ∀ t ∈ l, abT w t.tvs t.cells
 | [], _, t, ht => by simp at ht
 | x :: r, h, t, ht => by
   simp only [cJ] at h
   rcases List.mem_cons.1 ht with e | ht
   ·rw [e]; exact abO w S x h.1
   ·exact tV w S r h.2 t ht
end
theorem aX {α : Type} {p : α -> Prop} {l : List α} {i : Nat} (h : i < l.length) (ha : ∀ y ∈ l.take i, p y) (hx : p l[i]) : ∀ y ∈ l.take (i + 1), p y := fun y hy => by
 rw [List.take_add_one, List.getElem?_eq_getElem h] at hy
 rcases List.mem_append.1 hy with hy | hy
 ·exact ha y hy
 ·simp at hy; subst hy; exact hx
def di {α : Type} (tw : α -> List TV) (z : List TV) (l : List α) (i : Nat) : List (List TV) := (l.take i).map tw ++ List.replicate (l.length - i) z
theorem bK {α : Type} (tw : α -> List TV) (z : List TV) (l : List α) : List.replicate l.length z = di tw z l 0 := by simp [di]
theorem bL {α : Type} (tw : α -> List TV) (z : List TV) (l : List α) : di tw z l l.length = l.map tw := by simp [di]
theorem cj {α : Type} (tw : α -> List TV) (z : List TV) {l : List α} {i : Nat} (h : i < l.length) : (di tw z l i)[i]? = some z /\ (di tw z l i).set i (tw l[i]) = di tw z l (i + 1) := by
 have e : l.length - i = (l.length - (i + 1)) + 1 := by omega
 have hl : ((l.take i).map tw).length = i := by simp; omega
 unfold di
 refine ⟨?_, ?_⟩
 ·rw [List.getElem?_append_right (by omega), hl, Nat.sub_self, e, List.replicate_succ]; rfl
 ·rw [List.set_append_right _ _ (by omega), hl, Nat.sub_self, e, List.replicate_succ, List.set_cons_zero, show l.take (i + 1) = l.take i ++ [l[i]] from by rw [List.take_add_one, List.getElem?_eq_getElem h]; rfl, List.map_append, List.append_assoc]
  rfl
def jk (B : Nat) (objs : aI) (K : Nat) (l l' : List TV) : Prop := l'.length = l.length /\ ∀ (j : Nat) (t t' : TV), l[j]? = some t -> l'[j]? = some t' -> Fin B objs K t t'
theorem jk.nil {B : Nat} {objs : aI} {K : Nat} : jk B objs K [] [] := ⟨rfl, by simp⟩
theorem jk.cons {B : Nat} {objs : aI} {K : Nat} {t t' : TV} {l l' : List TV} (h : Fin B objs K t t') (hr : jk B objs K l l') : jk B objs K (t :: l) (t' :: l') := ⟨by simp [hr.1], fun j u u' h1 h2 => by
 cases j with
 | zero => simp at h1 h2; subst h1; subst h2; exact h
 | succ j => exact hr.2 j u u' (by simpa using h1) (by simpa using h2)⟩
theorem jk.append {B : Nat} {objs : aI} {K : Nat} {a a' b b' : List TV} (h : jk B objs K a a') (k : jk B objs K b b') : jk B objs K (a ++ b) (a' ++ b') := ⟨by simp [h.1, k.1], fun j u u' h1 h2 => by
 by_cases hj : j < a.length
 ·rw [List.getElem?_append_left hj] at h1
  rw [List.getElem?_append_left (by rw [h.1]; exact hj)] at h2
  exact h.2 j u u' h1 h2
 ·rw [List.getElem?_append_right (by omega)] at h1
  rw [List.getElem?_append_right (by rw [h.1]; omega)] at h2
  rw [h.1] at h2
  exact k.2 _ u u' h1 h2⟩
theorem jk.rows {α : Type} {B : Nat} {objs : aI} {K : Nat} {f f' : α -> List TV} (h : ∀ x, jk B objs K (f x) (f' x)) : ∀ l : List α, jk B objs K (l.map f).flatten (l.map f').flatten
 | [] => .nil
 | x :: r => by simpa using (h x).append (jk.rows h r)
theorem jk.lens {α : Type} {f f' : α -> List TV} (h : ∀ x, (f' x).length = (f x).length) (l : List α) : (l.map f').map List.length = (l.map f).map List.length := by
 induction l with
 | nil => rfl
 | cons x r ih => simpa [h x] using ih
theorem cT {α : Type} {B : Nat} {objs : aI} {K m : Nat} {f f' : α -> List TV} (h : ∀ x, jk B objs K (f x) (f' x)) (l : List α) : Fin B objs K (.sl B m (l.map f)) (.sl K m (l.map f')) :=
 .sl B m _ _ (Nat.le_refl _) (jk.lens (fun x => (h x).1) l) (jk.rows h l).2
theorem gP {α : Type} {B : Nat} {objs : aI} {K s b m : Nat} {f f' : α -> List TV} (h : ∀ x, jk B objs K (f x) (f' x)) {l : List α} (hm : (s, b, ba.row m (l.map f)) ∈ objs) : Fin B objs K (.ms s b 0 l.length) (.sl K m (l.map f')) :=
 .ms s b 0 l.length m _ (l.map f) _ hm (by simp) (by rw [List.drop_zero, List.take_of_length_le (by simp)]) (jk.lens (fun x => (h x).1) l) (jk.rows h l).2
theorem e8 {B : Nat} {objs : aI} {K : Nat} {l l' : List TV} (h : jk B objs K l l') : Fin B objs K (.agg l) (.agg l') := .agg l l' h.1 h.2
theorem ea {l : List ByteArray} {i : Nat} (h : i < l.length) : (cg l)[i]? = some [.str l[i]] := aK h
theorem bJ (l : List ByteArray) : (cg l).length = l.length := by simp [cg]
section
variable {G : World -> Prop}
theorem ma (lo : Nat) (l : List ByteArray) (left : Int) (h : 0 <= left /\ left <= 1048576) (hb : l.length <= 9223372036854775807 /\ ∀ y ∈ l, ByteArray.size y <= 9223372036854775807) : CtM Tryz.prog G 158 [.sl lo 1 (cg l), .int .i64 left] [] (fun y : Int => -1 <= y /\ y <= left /\ (0 <= y -> l.length <= 1048576 /\ ∀ y ∈ l, ByteArray.size y <= 1048576)) (fun _ => []) (fun y => .int .i64 y) := by
 refine aA Tryz.func158 rfl Tryz.ntmps158 rfl rfl rfl fun w0 R gs objsR hG hR => ?_
 obtain rfl := hR.inv0
 clear hR
 have hlen := bJ l
 have hl1 := hb.1
 by_cases hn : left - l.length < 0
 ·repeat' refine W_ ?_
  exact aw x_ rfl (-1) ⟨by omega, by omega, fun h => by omega⟩ rfl (.nil R) (.refl _) (.tmp _ _ rfl) rfl
 ·repeat' refine W_ ?_
  apply aj (X := Nat × Int) [0, 1000000] (fun x => [(5, .int .i64 (x.1 : Int)), (1, .int .i64 x.2)]) (fun _ => R) (fun x => x.1 <= l.length /\ 0 <= x.2 /\ x.2 <= left /\ ∀ y ∈ l.take x.1, ByteArray.size y <= 1048576) (fun x => l.length - x.1) (0, left - l.length) ⟨Nat.zero_le _, by dsimp only; omega, by dsimp only; omega, by simp⟩
  exact kp_; exact nw_
  ·exact .refl _
  rintro ⟨i, lf⟩ ⟨hi, h0, h1, hs⟩
  dsimp only at hi h0 h1 hs |-
  by_cases hlt : i < l.length
  ·have hrow := ea hlt
   have hbi := hb.2 _ (List.getElem_mem hlt)
   have hta := aX (p := fun y => ByteArray.size y <= 1048576) hlt hs
   generalize l[i] = x at hrow hbi hta
   repeat' (first | refine W_ ?_ | refine c_ (fun hc => ?_) (fun hc => ?_))
   all_goals first
     | exact aw x_ rfl (-1) ⟨by omega, by omega, fun h => by omega⟩ rfl (.nil R) (.refl _) (.tmp _ _ rfl) rfl
     | exact ag (i + 1, lf - x.size) ⟨by dsimp only; omega, by dsimp only; omega, by dsimp only; omega, hta (by omega)⟩ (by dsimp only; omega) (.of _ nw_ od_ pk_)
  ·rw [List.take_of_length_le (by omega)] at hs
   repeat' refine W_ ?_
   exact aw x_ rfl lf ⟨by omega, by omega, fun _ => ⟨by omega, hs⟩⟩ rfl (.nil R) (.refl _) (.tmp _ _ rfl) rfl
theorem lV (_hst : ay G) (lo : Nat) (l : List ByteArray) (hn : l.length <= 1048576) : Ct Tryz.prog G 174 [.sl lo 1 (cg l)] (fun K => .sl K 1 (cg l)) := by
 refine ap Tryz.func174 rfl Tryz.ntmps174 rfl rfl fun w0 _ hG => ?_
 have hlen := bJ l
 have h0 := bK (fun s : ByteArray => [TV.str s]) [.str ⟨#[]⟩] l
 repeat' (first | refine W_ ?_ | (refine dC ?_; intro ss bb))
 apply aj (X := Nat) [0, 3] (fun i => [(4, .int .i64 (i : Int))]) (fun i => [(ss, bb, .row 1 (di (fun s : ByteArray => [TV.str s]) [.str ⟨#[]⟩] l i))]) (fun i => i <= l.length) (fun i => l.length - i) 0 (Nat.zero_le _)
 exact kp_; exact nw_
 ·rw [<- h0]; exact .refl _
 intro i hi
 try dsimp only
 by_cases hlt : i < l.length
 ·obtain ⟨hrow, hset⟩ := cj (fun s : ByteArray => [TV.str s]) [.str ⟨#[]⟩] hlt
  have hra := ea hlt
  generalize l[i] = x at hset hra
  try dsimp only at hset
  repeat' (first | refine W_ ?_ | refine bg ?_)
  refine ag (i + 1) (by omega) (by omega) (.of _ nw_ od_ (by rw [<- hset]; exact .refl _))
 ·obtain rfl : i = l.length := by omega
  rw [bL]
  repeat' refine W_ ?_
  refine aE x_ rfl (.tmp _ _ rfl) (fun _ => ?_)
  exact gP (fun x => .cons (.flat rfl) .nil) List.mem_cons_self
theorem mA (l1 l2 : Nat) (l : List ByteArray) (hn : l.length <= 1048576) : Ct Tryz.prog G 27 [.sl l1 1 (cg l), .sl l2 1 (cg l)] (fun _ => .bool true) := by
 refine ap Tryz.func27 rfl Tryz.ntmps27 rfl rfl fun w0 _ hG => ?_
 have hlen := bJ l
 repeat' refine W_ ?_
 apply aj (X := Nat) [0, 1] (fun i => [(5, .int .i64 (i : Int))]) (fun _ => []) (fun i => i <= l.length) (fun i => l.length - i) 0 (Nat.zero_le _)
 exact kp_; exact nw_
 ·exact .refl _
 intro i hi
 try dsimp only
 by_cases hlt : i < l.length
 ·have hrow := ea hlt
  generalize l[i] = x at hrow
  have hx : ¬ x ≠ x := fun h => h rfl
  repeat' refine V_ ?_
  exact ag (i + 1) (by omega) (by omega) (.of _ nw_ od_ pk_)
 ·repeat' refine W_ ?_
  exact r1_
end
def ah.tw (_lo : Nat) (x : ah) : List TV := [.int .i64 x.op, .int .i64 x.a, .int .i64 x.b, .str x.text]
def ah.small (n : Nat) (x : ah) : Prop := (x.text.size <= n)
def ah.tz : List TV := [.int .i64 0, .int .i64 0, .int .i64 0, .str ⟨#[]⟩]
theorem ah.fin (B K : Nat) (objs : aI) (x : ah) : jk B objs K (x.tw B) (x.tw K) := .cons (.flat rfl) (.cons (.flat rfl) (.cons (.flat rfl) (.cons (.flat rfl) (.nil))))
theorem ah.len (lo : Nat) (l : List ah) : (l.map (ah.tw lo)).length = l.length := by simp
section
variable {G : World -> Prop}
theorem yA (_hst : ay G) (lo : Nat) (x : ah) (left : Int) (h : 0 <= left /\ left <= 1048576) (hb : x.small 9223372036854775807) : CtM Tryz.prog G 251 [.agg (x.tw lo), .int .i64 left] [] (fun y : Int => -1 <= y /\ y <= left /\ (0 <= y -> x.small 1048576)) (fun _ => []) (fun y => .int .i64 y) := by
 refine aA Tryz.func251 rfl Tryz.ntmps251 rfl rfl rfl fun w0 R gs objsR hG hR => ?_
 obtain rfl := hR.inv0
 clear hR
 unfold ah.small at hb
 have hb1 : x.text.size <= 9223372036854775807 := hb
 unfold ah.tw
 repeat' (first | refine W_ ?_ | refine aL ?_ | refine c_ (fun hc => ?_) (fun hc => ?_))
 all_goals first
   | exact aw x_ rfl (-1) ⟨by omega, by omega, fun h => by omega⟩ rfl (.nil R) (.refl _) (.tmp _ _ rfl) rfl
   | (refine aw x_ rfl _ ⟨?_, ?_, fun _ => ?_⟩ rfl (.nil R) (.refl _) (.tmp _ _ rfl) rfl
      ·omega
      ·omega
      ·show _ <= _; omega)
theorem vj (hst : ay G) (lo : Nat) (l : List ah) (left : Int) (h : 0 <= left /\ left <= 1048576) (hb : l.length <= 9223372036854775807 /\ ∀ y ∈ l, ah.small 9223372036854775807 y) : CtM Tryz.prog G 198 [.sl lo 4 (l.map (ah.tw lo)), .int .i64 left] [] (fun y : Int => -1 <= y /\ y <= left /\ (0 <= y -> l.length <= 1048576 /\ ∀ y ∈ l, ah.small 1048576 y)) (fun _ => []) (fun y => .int .i64 y) := by
 refine aA Tryz.func198 rfl Tryz.ntmps198 rfl rfl rfl fun w0 R gs objsR hG hR => ?_
 obtain rfl := hR.inv0
 clear hR
 have hlen := ah.len lo l
 have hl1 := hb.1
 by_cases hn : left - l.length < 0
 ·repeat' refine W_ ?_
  exact aw x_ rfl (-1) ⟨by omega, by omega, fun h => by omega⟩ rfl (.nil R) (.refl _) (.tmp _ _ rfl) rfl
 ·repeat' refine W_ ?_
  apply aj (X := Nat × Int) [0, 1000000] (fun x => [(5, .int .i64 (x.1 : Int)), (1, .int .i64 x.2)]) (fun _ => R) (fun x => x.1 <= l.length /\ 0 <= x.2 /\ x.2 <= left /\ ∀ y ∈ l.take x.1, ah.small 1048576 y) (fun x => l.length - x.1) (0, left - l.length) ⟨Nat.zero_le _, by dsimp only; omega, by dsimp only; omega, by simp⟩
  exact kp_; exact nw_
  ·exact .refl _
  rintro ⟨i, lf⟩ ⟨hi, h0, h1, hs⟩
  dsimp only at hi h0 h1 hs |-
  by_cases hlt : i < l.length
  ·have hrow : (l.map (ah.tw lo))[i]? = some (l[i].tw lo) := aK hlt
   have hbi := hb.2 _ (List.getElem_mem hlt)
   have hta := aX (p := ah.small 1048576) hlt hs
   generalize l[i] = x at hrow hbi hta
   have hct := yA hst lo x lf (by omega) hbi
   unfold ah.tw at hct
   rw [show x.tw lo = [.int .i64 x.op, .int .i64 x.a, .int .i64 x.b, .str x.text] from rfl] at hrow
   repeat' (first | refine W_ ?_ | ((with_reducible apply aJ); rfl; kernel_rfl; (repeat (first | exact aH.nil | ((with_reducible apply aH.cons); rfl))); exact hG; exact hct; exact .nil _; intro y hy; refine bO ?_) | refine c_ (fun hc => ?_) (fun hc => ?_))
   all_goals first
     | exact aw x_ rfl (-1) ⟨by omega, by omega, fun h => by omega⟩ rfl (.nil R) (.refl _) (.tmp _ _ rfl) rfl
     | exact ag (i + 1, y) ⟨by dsimp only; omega, by dsimp only; omega, by dsimp only; omega, hta (hy.2.2 (by omega))⟩ (by dsimp only; omega) (.of _ nw_ od_ pk_)
  ·rw [List.take_of_length_le (by omega)] at hs
   repeat' refine W_ ?_
   exact aw x_ rfl lf ⟨by omega, by omega, fun _ => ⟨by omega, hs⟩⟩ rfl (.nil R) (.refl _) (.tmp _ _ rfl) rfl
theorem qs (_hst : ay G) (lo : Nat) (x : ah) (_hb : x.small 1048576) : Ct Tryz.prog G 262 [.agg (x.tw lo)] (fun K => .agg (x.tw K)) := by
 refine ap Tryz.func262 rfl Tryz.ntmps262 rfl rfl fun w0 _ hG => ?_
 unfold ah.small at _hb
 skip
 repeat' (first | refine W_ ?_ | refine aL ?_ | (refine ai ?_; intro ss bb) | refine ac ?_)
 refine aE x_ rfl (.cell _ _ _ _ _ rfl mm_ (by kernel_rfl) (by kernel_rfl) (by kernel_rfl)) (fun _ => ?_)
 exact e8 (ah.fin _ _ _ x)
theorem vD (hst : ay G) (lo : Nat) (l : List ah) (hb : l.length <= 1048576 /\ ∀ y ∈ l, ah.small 1048576 y) : Ct Tryz.prog G 208 [.sl lo 4 (l.map (ah.tw lo))] (fun K => .sl K 4 (l.map (ah.tw K))) := by
 refine ap Tryz.func208 rfl Tryz.ntmps208 rfl rfl fun w0 _ hG => ?_
 have hlen := ah.len lo l
 have hl1 := hb.1
 have h0 := bK (ah.tw w0.heap.size) ah.tz l
 repeat' (first | refine W_ ?_ | (refine dC ?_; intro ss bb))
 apply aj (X := Nat) [0, 3] (fun i => [(4, .int .i64 (i : Int))]) (fun i => [(ss, bb, .row 4 (di (ah.tw w0.heap.size) ah.tz l i))]) (fun i => i <= l.length) (fun i => l.length - i) 0 (Nat.zero_le _)
 exact kp_; exact nw_
 ·rw [<- h0]; exact .refl _
 intro i hi
 try dsimp only
 by_cases hlt : i < l.length
 ·obtain ⟨hrow, hset⟩ := cj (ah.tw w0.heap.size) ah.tz hlt
  have hra : (l.map (ah.tw lo))[i]? = some (l[i].tw lo) := aK hlt
  have hbi := hb.2 _ (List.getElem_mem hlt)
  generalize l[i] = x at hset hra hbi
  have hct := qs hst lo x hbi
  unfold ah.tw at hct
  rw [show x.tw lo = [.int .i64 x.op, .int .i64 x.a, .int .i64 x.b, .str x.text] from rfl] at hra
  replace hrow : (di (ah.tw w0.heap.size) ah.tz l i)[i]? = some [.int .i64 0, .int .i64 0, .int .i64 0, .str ⟨#[]⟩] := hrow
  repeat' (first | refine W_ ?_ | refine ab hG hst (hct) ?_ | refine bg ?_)
  refine ag (i + 1) (by omega) (by omega) (.of _ nw_ od_ (by rw [<- hset]; exact .refl _))
 ·obtain rfl : i = l.length := by omega
  rw [bL]
  repeat' refine W_ ?_
  refine aE x_ rfl (.tmp _ _ rfl) (fun _ => ?_)
  exact gP (fun x => ah.fin _ _ _ x) List.mem_cons_self
theorem yO (_hst : ay G) (l1 l2 : Nat) (x : ah) (_hb : x.small 1048576) : Ct Tryz.prog G 272 [.agg (x.tw l1), .agg (x.tw l2)] (fun _ => .bool true) := by
 refine ap Tryz.func272 rfl Tryz.ntmps272 rfl rfl fun w0 _ hG => ?_
 unfold ah.small at _hb
 have hnetext : ¬ x.text ≠ x.text := fun h => h rfl
 unfold ah.tw
 repeat' (first | refine W_ ?_ | refine aL ?_)
 all_goals first
   | (exfalso; simp at hc; done)
   | (exact r1_)
theorem ww (hst : ay G) (l1 l2 : Nat) (l : List ah) (hb : l.length <= 1048576 /\ ∀ y ∈ l, ah.small 1048576 y) : Ct Tryz.prog G 225 [.sl l1 4 (l.map (ah.tw l1)), .sl l2 4 (l.map (ah.tw l2))] (fun _ => .bool true) := by
 refine ap Tryz.func225 rfl Tryz.ntmps225 rfl rfl fun w0 _ hG => ?_
 have hlen := ah.len l1 l
 have hlen2 := ah.len l2 l
 have hl1 := hb.1
 repeat' refine W_ ?_
 apply aj (X := Nat) [0, 1] (fun i => [(5, .int .i64 (i : Int))]) (fun _ => []) (fun i => i <= l.length) (fun i => l.length - i) 0 (Nat.zero_le _)
 exact kp_; exact nw_
 ·exact .refl _
 intro i hi
 try dsimp only
 by_cases hlt : i < l.length
 ·have hr1 : (l.map (ah.tw l1))[i]? = some (l[i].tw l1) := aK hlt
  have hr2 : (l.map (ah.tw l2))[i]? = some (l[i].tw l2) := aK hlt
  have hbi := hb.2 _ (List.getElem_mem hlt)
  generalize l[i] = x at hr1 hr2 hbi
  have hct := yO hst l1 l2 x hbi
  unfold ah.tw at hct
  rw [show x.tw l1 = [.int .i64 x.op, .int .i64 x.a, .int .i64 x.b, .str x.text] from rfl] at hr1
  rw [show x.tw l2 = [.int .i64 x.op, .int .i64 x.a, .int .i64 x.b, .str x.text] from rfl] at hr2
  repeat' (first | refine V_ ?_ | refine ae hG hst (hct) ?_)
  exact ag (i + 1) (by omega) (by omega) (.of _ nw_ od_ pk_)
 ·repeat' refine W_ ?_
  exact r1_
end
def az.tw (lo : Nat) (x : az) : List TV := [.bool x.block, .int .i64 x.params, .int .i64 x.slots, .sl lo 4 (x.instrs.map (ah.tw lo))]
def az.small (n : Nat) (x : az) : Prop := (x.instrs.length <= n /\ ∀ y ∈ x.instrs, ah.small n y)
def az.tz : List TV := [.bool false, .int .i64 0, .int .i64 0, .nils]
theorem az.fin (B K : Nat) (objs : aI) (x : az) : jk B objs K (x.tw B) (x.tw K) := .cons (.flat rfl) (.cons (.flat rfl) (.cons (.flat rfl) (.cons (cT (fun x => ah.fin B K objs x) _) (.nil))))
theorem az.len (lo : Nat) (l : List az) : (l.map (az.tw lo)).length = l.length := by simp
section
variable {G : World -> Prop}
theorem aao (hst : ay G) (lo : Nat) (x : az) (left : Int) (h : 0 <= left /\ left <= 1048576) (hb : x.small 9223372036854775807) : CtM Tryz.prog G 123 [.agg (x.tw lo), .int .i64 left] [] (fun y : Int => -1 <= y /\ y <= left /\ (0 <= y -> x.small 1048576)) (fun _ => []) (fun y => .int .i64 y) := by
 refine aA Tryz.func123 rfl Tryz.ntmps123 rfl rfl rfl fun w0 R gs objsR hG hR => ?_
 obtain rfl := hR.inv0
 clear hR
 unfold az.small at hb
 skip
 unfold az.tw
 repeat' (first | refine W_ ?_ | refine aL ?_ | ((with_reducible apply aJ); rfl; kernel_rfl; (repeat (first | exact aH.nil | ((with_reducible apply aH.cons); rfl))); exact hG; exact vj hst lo x.instrs _ (by omega) hb; exact .nil _; intro y1 hy1; refine bO ?_) | refine c_ (fun hc => ?_) (fun hc => ?_))
 all_goals first
   | exact aw x_ rfl (-1) ⟨by omega, by omega, fun h => by omega⟩ rfl (.nil R) (.refl _) (.tmp _ _ rfl) rfl
   | (refine aw x_ rfl _ ⟨?_, ?_, fun _ => ?_⟩ rfl (.nil R) (.refl _) (.tmp _ _ rfl) rfl
      ·omega
      ·omega
      ·exact hy1.2.2 (by omega))
theorem ym (hst : ay G) (lo : Nat) (l : List az) (left : Int) (h : 0 <= left /\ left <= 1048576) (hb : l.length <= 9223372036854775807 /\ ∀ y ∈ l, az.small 9223372036854775807 y) : CtM Tryz.prog G 46 [.sl lo 4 (l.map (az.tw lo)), .int .i64 left] [] (fun y : Int => -1 <= y /\ y <= left /\ (0 <= y -> l.length <= 1048576 /\ ∀ y ∈ l, az.small 1048576 y)) (fun _ => []) (fun y => .int .i64 y) := by
 refine aA Tryz.func46 rfl Tryz.ntmps46 rfl rfl rfl fun w0 R gs objsR hG hR => ?_
 obtain rfl := hR.inv0
 clear hR
 have hlen := az.len lo l
 have hl1 := hb.1
 by_cases hn : left - l.length < 0
 ·repeat' refine W_ ?_
  exact aw x_ rfl (-1) ⟨by omega, by omega, fun h => by omega⟩ rfl (.nil R) (.refl _) (.tmp _ _ rfl) rfl
 ·repeat' refine W_ ?_
  apply aj (X := Nat × Int) [0, 1000000] (fun x => [(5, .int .i64 (x.1 : Int)), (1, .int .i64 x.2)]) (fun _ => R) (fun x => x.1 <= l.length /\ 0 <= x.2 /\ x.2 <= left /\ ∀ y ∈ l.take x.1, az.small 1048576 y) (fun x => l.length - x.1) (0, left - l.length) ⟨Nat.zero_le _, by dsimp only; omega, by dsimp only; omega, by simp⟩
  exact kp_; exact nw_
  ·exact .refl _
  rintro ⟨i, lf⟩ ⟨hi, h0, h1, hs⟩
  dsimp only at hi h0 h1 hs |-
  by_cases hlt : i < l.length
  ·have hrow : (l.map (az.tw lo))[i]? = some (l[i].tw lo) := aK hlt
   have hbi := hb.2 _ (List.getElem_mem hlt)
   have hta := aX (p := az.small 1048576) hlt hs
   generalize l[i] = x at hrow hbi hta
   have hct := aao hst lo x lf (by omega) hbi
   unfold az.tw at hct
   rw [show x.tw lo = [.bool x.block, .int .i64 x.params, .int .i64 x.slots, .sl lo 4 (x.instrs.map (ah.tw lo))] from rfl] at hrow
   repeat' (first | refine W_ ?_ | ((with_reducible apply aJ); rfl; kernel_rfl; (repeat (first | exact aH.nil | ((with_reducible apply aH.cons); rfl))); exact hG; exact hct; exact .nil _; intro y hy; refine bO ?_) | refine c_ (fun hc => ?_) (fun hc => ?_))
   all_goals first
     | exact aw x_ rfl (-1) ⟨by omega, by omega, fun h => by omega⟩ rfl (.nil R) (.refl _) (.tmp _ _ rfl) rfl
     | exact ag (i + 1, y) ⟨by dsimp only; omega, by dsimp only; omega, by dsimp only; omega, hta (hy.2.2 (by omega))⟩ (by dsimp only; omega) (.of _ nw_ od_ pk_)
  ·rw [List.take_of_length_le (by omega)] at hs
   repeat' refine W_ ?_
   exact aw x_ rfl lf ⟨by omega, by omega, fun _ => ⟨by omega, hs⟩⟩ rfl (.nil R) (.refl _) (.tmp _ _ rfl) rfl
theorem aa8 (hst : ay G) (lo : Nat) (x : az) (hb : x.small 1048576) : Ct Tryz.prog G 132 [.agg (x.tw lo)] (fun K => .agg (x.tw K)) := by
 refine ap Tryz.func132 rfl Tryz.ntmps132 rfl rfl fun w0 _ hG => ?_
 unfold az.small at hb
 have hsinstrs := hb
 repeat' (first | refine W_ ?_ | refine aL ?_ | (refine ai ?_; intro ss bb) | refine ac ?_ | refine ab hG hst (vD hst lo x.instrs (hsinstrs)) ?_)
 refine aE x_ rfl (.cell _ _ _ _ _ rfl mm_ (by kernel_rfl) (by kernel_rfl) (by kernel_rfl)) (fun _ => ?_)
 exact e8 (az.fin _ _ _ x)
theorem x3 (hst : ay G) (lo : Nat) (l : List az) (hb : l.length <= 1048576 /\ ∀ y ∈ l, az.small 1048576 y) : Ct Tryz.prog G 52 [.sl lo 4 (l.map (az.tw lo))] (fun K => .sl K 4 (l.map (az.tw K))) := by
 refine ap Tryz.func52 rfl Tryz.ntmps52 rfl rfl fun w0 _ hG => ?_
 have hlen := az.len lo l
 have hl1 := hb.1
 have h0 := bK (az.tw w0.heap.size) az.tz l
 repeat' (first | refine W_ ?_ | (refine dC ?_; intro ss bb))
 apply aj (X := Nat) [0, 3] (fun i => [(4, .int .i64 (i : Int))]) (fun i => [(ss, bb, .row 4 (di (az.tw w0.heap.size) az.tz l i))]) (fun i => i <= l.length) (fun i => l.length - i) 0 (Nat.zero_le _)
 exact kp_; exact nw_
 ·rw [<- h0]; exact .refl _
 intro i hi
 try dsimp only
 by_cases hlt : i < l.length
 ·obtain ⟨hrow, hset⟩ := cj (az.tw w0.heap.size) az.tz hlt
  have hra : (l.map (az.tw lo))[i]? = some (l[i].tw lo) := aK hlt
  have hbi := hb.2 _ (List.getElem_mem hlt)
  generalize l[i] = x at hset hra hbi
  have hct := aa8 hst lo x hbi
  unfold az.tw at hct
  rw [show x.tw lo = [.bool x.block, .int .i64 x.params, .int .i64 x.slots, .sl lo 4 (x.instrs.map (ah.tw lo))] from rfl] at hra
  replace hrow : (di (az.tw w0.heap.size) az.tz l i)[i]? = some [.bool false, .int .i64 0, .int .i64 0, .nils] := hrow
  repeat' (first | refine W_ ?_ | refine ab hG hst (hct) ?_ | refine bg ?_)
  refine ag (i + 1) (by omega) (by omega) (.of _ nw_ od_ (by rw [<- hset]; exact .refl _))
 ·obtain rfl : i = l.length := by omega
  rw [bL]
  repeat' refine W_ ?_
  refine aE x_ rfl (.tmp _ _ rfl) (fun _ => ?_)
  exact gP (fun x => az.fin _ _ _ x) List.mem_cons_self
theorem aab (hst : ay G) (l1 l2 : Nat) (x : az) (hb : x.small 1048576) : Ct Tryz.prog G 147 [.agg (x.tw l1), .agg (x.tw l2)] (fun _ => .bool true) := by
 refine ap Tryz.func147 rfl Tryz.ntmps147 rfl rfl fun w0 _ hG => ?_
 unfold az.small at hb
 have hsinstrs := hb
 unfold az.tw
 repeat' (first | refine W_ ?_ | refine aL ?_ | refine ab hG hst (ww hst l1 l2 x.instrs hsinstrs) ?_ | refine c_ (fun hc => ?_) (fun hc => ?_))
 all_goals first
   | (exfalso; simp at hc; done)
   | (exact r1_)
theorem yG (hst : ay G) (l1 l2 : Nat) (l : List az) (hb : l.length <= 1048576 /\ ∀ y ∈ l, az.small 1048576 y) : Ct Tryz.prog G 63 [.sl l1 4 (l.map (az.tw l1)), .sl l2 4 (l.map (az.tw l2))] (fun _ => .bool true) := by
 refine ap Tryz.func63 rfl Tryz.ntmps63 rfl rfl fun w0 _ hG => ?_
 have hlen := az.len l1 l
 have hlen2 := az.len l2 l
 have hl1 := hb.1
 repeat' refine W_ ?_
 apply aj (X := Nat) [0, 1] (fun i => [(5, .int .i64 (i : Int))]) (fun _ => []) (fun i => i <= l.length) (fun i => l.length - i) 0 (Nat.zero_le _)
 exact kp_; exact nw_
 ·exact .refl _
 intro i hi
 try dsimp only
 by_cases hlt : i < l.length
 ·have hr1 : (l.map (az.tw l1))[i]? = some (l[i].tw l1) := aK hlt
  have hr2 : (l.map (az.tw l2))[i]? = some (l[i].tw l2) := aK hlt
  have hbi := hb.2 _ (List.getElem_mem hlt)
  generalize l[i] = x at hr1 hr2 hbi
  have hct := aab hst l1 l2 x hbi
  unfold az.tw at hct
  rw [show x.tw l1 = [.bool x.block, .int .i64 x.params, .int .i64 x.slots, .sl l1 4 (x.instrs.map (ah.tw l1))] from rfl] at hr1
  rw [show x.tw l2 = [.bool x.block, .int .i64 x.params, .int .i64 x.slots, .sl l2 4 (x.instrs.map (ah.tw l2))] from rfl] at hr2
  repeat' (first | refine V_ ?_ | refine ae hG hst (hct) ?_)
  exact ag (i + 1) (by omega) (by omega) (.of _ nw_ od_ pk_)
 ·repeat' refine W_ ?_
  exact r1_
end
def ar.tw (_lo : Nat) (x : ar) : List TV := [.int .i64 x.owner, .bool x.class_, .str x.selector, .int .i64 x.code]
def ar.small (n : Nat) (x : ar) : Prop := (x.selector.size <= n)
def ar.tz : List TV := [.int .i64 0, .bool false, .str ⟨#[]⟩, .int .i64 0]
theorem ar.fin (B K : Nat) (objs : aI) (x : ar) : jk B objs K (x.tw B) (x.tw K) := .cons (.flat rfl) (.cons (.flat rfl) (.cons (.flat rfl) (.cons (.flat rfl) (.nil))))
theorem ar.len (lo : Nat) (l : List ar) : (l.map (ar.tw lo)).length = l.length := by simp
section
variable {G : World -> Prop}
theorem xV (_hst : ay G) (lo : Nat) (x : ar) (left : Int) (h : 0 <= left /\ left <= 1048576) (hb : x.small 9223372036854775807) : CtM Tryz.prog G 124 [.agg (x.tw lo), .int .i64 left] [] (fun y : Int => -1 <= y /\ y <= left /\ (0 <= y -> x.small 1048576)) (fun _ => []) (fun y => .int .i64 y) := by
 refine aA Tryz.func124 rfl Tryz.ntmps124 rfl rfl rfl fun w0 R gs objsR hG hR => ?_
 obtain rfl := hR.inv0
 clear hR
 unfold ar.small at hb
 have hb1 : x.selector.size <= 9223372036854775807 := hb
 unfold ar.tw
 repeat' (first | refine W_ ?_ | refine aL ?_ | refine c_ (fun hc => ?_) (fun hc => ?_))
 all_goals first
   | exact aw x_ rfl (-1) ⟨by omega, by omega, fun h => by omega⟩ rfl (.nil R) (.refl _) (.tmp _ _ rfl) rfl
   | (refine aw x_ rfl _ ⟨?_, ?_, fun _ => ?_⟩ rfl (.nil R) (.refl _) (.tmp _ _ rfl) rfl
      ·omega
      ·omega
      ·show _ <= _; omega)
theorem ws (hst : ay G) (lo : Nat) (l : List ar) (left : Int) (h : 0 <= left /\ left <= 1048576) (hb : l.length <= 9223372036854775807 /\ ∀ y ∈ l, ar.small 9223372036854775807 y) : CtM Tryz.prog G 47 [.sl lo 4 (l.map (ar.tw lo)), .int .i64 left] [] (fun y : Int => -1 <= y /\ y <= left /\ (0 <= y -> l.length <= 1048576 /\ ∀ y ∈ l, ar.small 1048576 y)) (fun _ => []) (fun y => .int .i64 y) := by
 refine aA Tryz.func47 rfl Tryz.ntmps47 rfl rfl rfl fun w0 R gs objsR hG hR => ?_
 obtain rfl := hR.inv0
 clear hR
 have hlen := ar.len lo l
 have hl1 := hb.1
 by_cases hn : left - l.length < 0
 ·repeat' refine W_ ?_
  exact aw x_ rfl (-1) ⟨by omega, by omega, fun h => by omega⟩ rfl (.nil R) (.refl _) (.tmp _ _ rfl) rfl
 ·repeat' refine W_ ?_
  apply aj (X := Nat × Int) [0, 1000000] (fun x => [(5, .int .i64 (x.1 : Int)), (1, .int .i64 x.2)]) (fun _ => R) (fun x => x.1 <= l.length /\ 0 <= x.2 /\ x.2 <= left /\ ∀ y ∈ l.take x.1, ar.small 1048576 y) (fun x => l.length - x.1) (0, left - l.length) ⟨Nat.zero_le _, by dsimp only; omega, by dsimp only; omega, by simp⟩
  exact kp_; exact nw_
  ·exact .refl _
  rintro ⟨i, lf⟩ ⟨hi, h0, h1, hs⟩
  dsimp only at hi h0 h1 hs |-
  by_cases hlt : i < l.length
  ·have hrow : (l.map (ar.tw lo))[i]? = some (l[i].tw lo) := aK hlt
   have hbi := hb.2 _ (List.getElem_mem hlt)
   have hta := aX (p := ar.small 1048576) hlt hs
   generalize l[i] = x at hrow hbi hta
   have hct := xV hst lo x lf (by omega) hbi
   unfold ar.tw at hct
   rw [show x.tw lo = [.int .i64 x.owner, .bool x.class_, .str x.selector, .int .i64 x.code] from rfl] at hrow
   repeat' (first | refine W_ ?_ | ((with_reducible apply aJ); rfl; kernel_rfl; (repeat (first | exact aH.nil | ((with_reducible apply aH.cons); rfl))); exact hG; exact hct; exact .nil _; intro y hy; refine bO ?_) | refine c_ (fun hc => ?_) (fun hc => ?_))
   all_goals first
     | exact aw x_ rfl (-1) ⟨by omega, by omega, fun h => by omega⟩ rfl (.nil R) (.refl _) (.tmp _ _ rfl) rfl
     | exact ag (i + 1, y) ⟨by dsimp only; omega, by dsimp only; omega, by dsimp only; omega, hta (hy.2.2 (by omega))⟩ (by dsimp only; omega) (.of _ nw_ od_ pk_)
  ·rw [List.take_of_length_le (by omega)] at hs
   repeat' refine W_ ?_
   exact aw x_ rfl lf ⟨by omega, by omega, fun _ => ⟨by omega, hs⟩⟩ rfl (.nil R) (.refl _) (.tmp _ _ rfl) rfl
theorem p6 (_hst : ay G) (lo : Nat) (x : ar) (_hb : x.small 1048576) : Ct Tryz.prog G 133 [.agg (x.tw lo)] (fun K => .agg (x.tw K)) := by
 refine ap Tryz.func133 rfl Tryz.ntmps133 rfl rfl fun w0 _ hG => ?_
 unfold ar.small at _hb
 skip
 repeat' (first | refine W_ ?_ | refine aL ?_ | (refine ai ?_; intro ss bb) | refine ac ?_)
 refine aE x_ rfl (.cell _ _ _ _ _ rfl mm_ (by kernel_rfl) (by kernel_rfl) (by kernel_rfl)) (fun _ => ?_)
 exact e8 (ar.fin _ _ _ x)
theorem vS (hst : ay G) (lo : Nat) (l : List ar) (hb : l.length <= 1048576 /\ ∀ y ∈ l, ar.small 1048576 y) : Ct Tryz.prog G 53 [.sl lo 4 (l.map (ar.tw lo))] (fun K => .sl K 4 (l.map (ar.tw K))) := by
 refine ap Tryz.func53 rfl Tryz.ntmps53 rfl rfl fun w0 _ hG => ?_
 have hlen := ar.len lo l
 have hl1 := hb.1
 have h0 := bK (ar.tw w0.heap.size) ar.tz l
 repeat' (first | refine W_ ?_ | (refine dC ?_; intro ss bb))
 apply aj (X := Nat) [0, 3] (fun i => [(4, .int .i64 (i : Int))]) (fun i => [(ss, bb, .row 4 (di (ar.tw w0.heap.size) ar.tz l i))]) (fun i => i <= l.length) (fun i => l.length - i) 0 (Nat.zero_le _)
 exact kp_; exact nw_
 ·rw [<- h0]; exact .refl _
 intro i hi
 try dsimp only
 by_cases hlt : i < l.length
 ·obtain ⟨hrow, hset⟩ := cj (ar.tw w0.heap.size) ar.tz hlt
  have hra : (l.map (ar.tw lo))[i]? = some (l[i].tw lo) := aK hlt
  have hbi := hb.2 _ (List.getElem_mem hlt)
  generalize l[i] = x at hset hra hbi
  have hct := p6 hst lo x hbi
  unfold ar.tw at hct
  rw [show x.tw lo = [.int .i64 x.owner, .bool x.class_, .str x.selector, .int .i64 x.code] from rfl] at hra
  replace hrow : (di (ar.tw w0.heap.size) ar.tz l i)[i]? = some [.int .i64 0, .bool false, .str ⟨#[]⟩, .int .i64 0] := hrow
  repeat' (first | refine W_ ?_ | refine ab hG hst (hct) ?_ | refine bg ?_)
  refine ag (i + 1) (by omega) (by omega) (.of _ nw_ od_ (by rw [<- hset]; exact .refl _))
 ·obtain rfl : i = l.length := by omega
  rw [bL]
  repeat' refine W_ ?_
  refine aE x_ rfl (.tmp _ _ rfl) (fun _ => ?_)
  exact gP (fun x => ar.fin _ _ _ x) List.mem_cons_self
theorem zb (_hst : ay G) (l1 l2 : Nat) (x : ar) (_hb : x.small 1048576) : Ct Tryz.prog G 148 [.agg (x.tw l1), .agg (x.tw l2)] (fun _ => .bool true) := by
 refine ap Tryz.func148 rfl Tryz.ntmps148 rfl rfl fun w0 _ hG => ?_
 unfold ar.small at _hb
 have hneselector : ¬ x.selector ≠ x.selector := fun h => h rfl
 unfold ar.tw
 repeat' (first | refine W_ ?_ | refine aL ?_ | refine c_ (fun hc => ?_) (fun hc => ?_))
 all_goals first
   | (exfalso; simp at hc; done)
   | (exact r1_)
theorem uT (hst : ay G) (l1 l2 : Nat) (l : List ar) (hb : l.length <= 1048576 /\ ∀ y ∈ l, ar.small 1048576 y) : Ct Tryz.prog G 64 [.sl l1 4 (l.map (ar.tw l1)), .sl l2 4 (l.map (ar.tw l2))] (fun _ => .bool true) := by
 refine ap Tryz.func64 rfl Tryz.ntmps64 rfl rfl fun w0 _ hG => ?_
 have hlen := ar.len l1 l
 have hlen2 := ar.len l2 l
 have hl1 := hb.1
 repeat' refine W_ ?_
 apply aj (X := Nat) [0, 1] (fun i => [(5, .int .i64 (i : Int))]) (fun _ => []) (fun i => i <= l.length) (fun i => l.length - i) 0 (Nat.zero_le _)
 exact kp_; exact nw_
 ·exact .refl _
 intro i hi
 try dsimp only
 by_cases hlt : i < l.length
 ·have hr1 : (l.map (ar.tw l1))[i]? = some (l[i].tw l1) := aK hlt
  have hr2 : (l.map (ar.tw l2))[i]? = some (l[i].tw l2) := aK hlt
  have hbi := hb.2 _ (List.getElem_mem hlt)
  generalize l[i] = x at hr1 hr2 hbi
  have hct := zb hst l1 l2 x hbi
  unfold ar.tw at hct
  rw [show x.tw l1 = [.int .i64 x.owner, .bool x.class_, .str x.selector, .int .i64 x.code] from rfl] at hr1
  rw [show x.tw l2 = [.int .i64 x.owner, .bool x.class_, .str x.selector, .int .i64 x.code] from rfl] at hr2
  repeat' (first | refine V_ ?_ | refine ae hG hst (hct) ?_)
  exact ag (i + 1) (by omega) (by omega) (.of _ nw_ od_ pk_)
 ·repeat' refine W_ ?_
  exact r1_
end
def aa.tw (lo : Nat) (x : aa) : List TV := [.str x.name, .int .i64 x.parent, .sl lo 1 (cg x.fields)]
def aa.small (n : Nat) (x : aa) : Prop := (x.name.size <= n) /\ (x.fields.length <= n /\ ∀ y ∈ x.fields, ByteArray.size y <= n)
def aa.tz : List TV := [.str ⟨#[]⟩, .int .i64 0, .nils]
theorem aa.fin (B K : Nat) (objs : aI) (_x : aa) : jk B objs K (_x.tw B) (_x.tw K) := .cons (.flat rfl) (.cons (.flat rfl) (.cons (cT (fun _x => .cons (.flat rfl) .nil) _) (.nil)))
theorem aa.len (lo : Nat) (l : List aa) : (l.map (aa.tw lo)).length = l.length := by simp
section
variable {G : World -> Prop}
theorem oX (_hst : ay G) (lo : Nat) (x : aa) (left : Int) (h : 0 <= left /\ left <= 1048576) (hb : x.small 9223372036854775807) : CtM Tryz.prog G 122 [.agg (x.tw lo), .int .i64 left] [] (fun y : Int => -1 <= y /\ y <= left /\ (0 <= y -> x.small 1048576)) (fun _ => []) (fun y => .int .i64 y) := by
 refine aA Tryz.func122 rfl Tryz.ntmps122 rfl rfl rfl fun w0 R gs objsR hG hR => ?_
 obtain rfl := hR.inv0
 clear hR
 unfold aa.small at hb
 have hb1 : x.name.size <= 9223372036854775807 := hb.1
 unfold aa.tw
 repeat' (first | refine W_ ?_ | refine aL ?_ | ((with_reducible apply aJ); rfl; kernel_rfl; (repeat (first | exact aH.nil | ((with_reducible apply aH.cons); rfl))); exact hG; exact ma lo x.fields _ (by omega) hb.2; exact .nil _; intro y2 hy2; refine bO ?_) | refine c_ (fun hc => ?_) (fun hc => ?_))
 all_goals first
   | exact aw x_ rfl (-1) ⟨by omega, by omega, fun h => by omega⟩ rfl (.nil R) (.refl _) (.tmp _ _ rfl) rfl
   | (refine aw x_ rfl _ ⟨?_, ?_, fun _ => ?_⟩ rfl (.nil R) (.refl _) (.tmp _ _ rfl) rfl
      ·omega
      ·omega
      ·exact ⟨by omega, hy2.2.2 (by omega)⟩)
theorem i8 (hst : ay G) (lo : Nat) (l : List aa) (left : Int) (h : 0 <= left /\ left <= 1048576) (hb : l.length <= 9223372036854775807 /\ ∀ y ∈ l, aa.small 9223372036854775807 y) : CtM Tryz.prog G 45 [.sl lo 3 (l.map (aa.tw lo)), .int .i64 left] [] (fun y : Int => -1 <= y /\ y <= left /\ (0 <= y -> l.length <= 1048576 /\ ∀ y ∈ l, aa.small 1048576 y)) (fun _ => []) (fun y => .int .i64 y) := by
 refine aA Tryz.func45 rfl Tryz.ntmps45 rfl rfl rfl fun w0 R gs objsR hG hR => ?_
 obtain rfl := hR.inv0
 clear hR
 have hlen := aa.len lo l
 have hl1 := hb.1
 by_cases hn : left - l.length < 0
 ·repeat' refine W_ ?_
  exact aw x_ rfl (-1) ⟨by omega, by omega, fun h => by omega⟩ rfl (.nil R) (.refl _) (.tmp _ _ rfl) rfl
 ·repeat' refine W_ ?_
  apply aj (X := Nat × Int) [0, 1000000] (fun x => [(5, .int .i64 (x.1 : Int)), (1, .int .i64 x.2)]) (fun _ => R) (fun x => x.1 <= l.length /\ 0 <= x.2 /\ x.2 <= left /\ ∀ y ∈ l.take x.1, aa.small 1048576 y) (fun x => l.length - x.1) (0, left - l.length) ⟨Nat.zero_le _, by dsimp only; omega, by dsimp only; omega, by simp⟩
  exact kp_; exact nw_
  ·exact .refl _
  rintro ⟨i, lf⟩ ⟨hi, h0, h1, hs⟩
  dsimp only at hi h0 h1 hs |-
  by_cases hlt : i < l.length
  ·have hrow : (l.map (aa.tw lo))[i]? = some (l[i].tw lo) := aK hlt
   have hbi := hb.2 _ (List.getElem_mem hlt)
   have hta := aX (p := aa.small 1048576) hlt hs
   generalize l[i] = x at hrow hbi hta
   have hct := oX hst lo x lf (by omega) hbi
   unfold aa.tw at hct
   rw [show x.tw lo = [.str x.name, .int .i64 x.parent, .sl lo 1 (cg x.fields)] from rfl] at hrow
   repeat' (first | refine W_ ?_ | ((with_reducible apply aJ); rfl; kernel_rfl; (repeat (first | exact aH.nil | ((with_reducible apply aH.cons); rfl))); exact hG; exact hct; exact .nil _; intro y hy; refine bO ?_) | refine c_ (fun hc => ?_) (fun hc => ?_))
   all_goals first
     | exact aw x_ rfl (-1) ⟨by omega, by omega, fun h => by omega⟩ rfl (.nil R) (.refl _) (.tmp _ _ rfl) rfl
     | exact ag (i + 1, y) ⟨by dsimp only; omega, by dsimp only; omega, by dsimp only; omega, hta (hy.2.2 (by omega))⟩ (by dsimp only; omega) (.of _ nw_ od_ pk_)
  ·rw [List.take_of_length_le (by omega)] at hs
   repeat' refine W_ ?_
   exact aw x_ rfl lf ⟨by omega, by omega, fun _ => ⟨by omega, hs⟩⟩ rfl (.nil R) (.refl _) (.tmp _ _ rfl) rfl
theorem pC (hst : ay G) (lo : Nat) (x : aa) (hb : x.small 1048576) : Ct Tryz.prog G 131 [.agg (x.tw lo)] (fun K => .agg (x.tw K)) := by
 refine ap Tryz.func131 rfl Tryz.ntmps131 rfl rfl fun w0 _ hG => ?_
 unfold aa.small at hb
 have hsfields := (hb.2).1
 repeat' (first | refine W_ ?_ | refine aL ?_ | (refine ai ?_; intro ss bb) | refine ac ?_ | refine ab hG hst (lV hst lo x.fields (hsfields)) ?_)
 refine aE x_ rfl (.cell _ _ _ _ _ rfl mm_ (by kernel_rfl) (by kernel_rfl) (by kernel_rfl)) (fun _ => ?_)
 exact e8 (aa.fin _ _ _ x)
theorem jm (hst : ay G) (lo : Nat) (l : List aa) (hb : l.length <= 1048576 /\ ∀ y ∈ l, aa.small 1048576 y) : Ct Tryz.prog G 51 [.sl lo 3 (l.map (aa.tw lo))] (fun K => .sl K 3 (l.map (aa.tw K))) := by
 refine ap Tryz.func51 rfl Tryz.ntmps51 rfl rfl fun w0 _ hG => ?_
 have hlen := aa.len lo l
 have hl1 := hb.1
 have h0 := bK (aa.tw w0.heap.size) aa.tz l
 repeat' (first | refine W_ ?_ | (refine dC ?_; intro ss bb))
 apply aj (X := Nat) [0, 3] (fun i => [(4, .int .i64 (i : Int))]) (fun i => [(ss, bb, .row 3 (di (aa.tw w0.heap.size) aa.tz l i))]) (fun i => i <= l.length) (fun i => l.length - i) 0 (Nat.zero_le _)
 exact kp_; exact nw_
 ·rw [<- h0]; exact .refl _
 intro i hi
 try dsimp only
 by_cases hlt : i < l.length
 ·obtain ⟨hrow, hset⟩ := cj (aa.tw w0.heap.size) aa.tz hlt
  have hra : (l.map (aa.tw lo))[i]? = some (l[i].tw lo) := aK hlt
  have hbi := hb.2 _ (List.getElem_mem hlt)
  generalize l[i] = x at hset hra hbi
  have hct := pC hst lo x hbi
  unfold aa.tw at hct
  rw [show x.tw lo = [.str x.name, .int .i64 x.parent, .sl lo 1 (cg x.fields)] from rfl] at hra
  replace hrow : (di (aa.tw w0.heap.size) aa.tz l i)[i]? = some [.str ⟨#[]⟩, .int .i64 0, .nils] := hrow
  repeat' (first | refine W_ ?_ | refine ab hG hst (hct) ?_ | refine bg ?_)
  refine ag (i + 1) (by omega) (by omega) (.of _ nw_ od_ (by rw [<- hset]; exact .refl _))
 ·obtain rfl : i = l.length := by omega
  rw [bL]
  repeat' refine W_ ?_
  refine aE x_ rfl (.tmp _ _ rfl) (fun _ => ?_)
  exact gP (fun x => aa.fin _ _ _ x) List.mem_cons_self
theorem oZ (hst : ay G) (l1 l2 : Nat) (x : aa) (hb : x.small 1048576) : Ct Tryz.prog G 146 [.agg (x.tw l1), .agg (x.tw l2)] (fun _ => .bool true) := by
 refine ap Tryz.func146 rfl Tryz.ntmps146 rfl rfl fun w0 _ hG => ?_
 unfold aa.small at hb
 have hsfields := (hb.2).1
 have hnename : ¬ x.name ≠ x.name := fun h => h rfl
 unfold aa.tw
 repeat' (first | refine W_ ?_ | refine aL ?_ | refine ab hG hst (mA l1 l2 x.fields hsfields) ?_)
 all_goals first
   | (exfalso; simp at hc; done)
   | (exact r1_)
theorem jq (hst : ay G) (l1 l2 : Nat) (l : List aa) (hb : l.length <= 1048576 /\ ∀ y ∈ l, aa.small 1048576 y) : Ct Tryz.prog G 62 [.sl l1 3 (l.map (aa.tw l1)), .sl l2 3 (l.map (aa.tw l2))] (fun _ => .bool true) := by
 refine ap Tryz.func62 rfl Tryz.ntmps62 rfl rfl fun w0 _ hG => ?_
 have hlen := aa.len l1 l
 have hlen2 := aa.len l2 l
 have hl1 := hb.1
 repeat' refine W_ ?_
 apply aj (X := Nat) [0, 1] (fun i => [(5, .int .i64 (i : Int))]) (fun _ => []) (fun i => i <= l.length) (fun i => l.length - i) 0 (Nat.zero_le _)
 exact kp_; exact nw_
 ·exact .refl _
 intro i hi
 try dsimp only
 by_cases hlt : i < l.length
 ·have hr1 : (l.map (aa.tw l1))[i]? = some (l[i].tw l1) := aK hlt
  have hr2 : (l.map (aa.tw l2))[i]? = some (l[i].tw l2) := aK hlt
  have hbi := hb.2 _ (List.getElem_mem hlt)
  generalize l[i] = x at hr1 hr2 hbi
  have hct := oZ hst l1 l2 x hbi
  unfold aa.tw at hct
  rw [show x.tw l1 = [.str x.name, .int .i64 x.parent, .sl l1 1 (cg x.fields)] from rfl] at hr1
  rw [show x.tw l2 = [.str x.name, .int .i64 x.parent, .sl l2 1 (cg x.fields)] from rfl] at hr2
  repeat' (first | refine V_ ?_ | refine ae hG hst (hct) ?_)
  exact ag (i + 1) (by omega) (by omega) (.of _ nw_ od_ pk_)
 ·repeat' refine W_ ?_
  exact r1_
end
def aB.tw (lo : Nat) (x : aB) : List TV := [.sl lo 3 (x.classes.map (aa.tw lo)), .sl lo 4 (x.codes.map (az.tw lo)), .sl lo 4 (x.entries.map (ar.tw lo)), .int .i64 x.main]
def aB.small (n : Nat) (x : aB) : Prop := (x.classes.length <= n /\ ∀ y ∈ x.classes, aa.small n y) /\ (x.codes.length <= n /\ ∀ y ∈ x.codes, az.small n y) /\ (x.entries.length <= n /\ ∀ y ∈ x.entries, ar.small n y)
def aB.tz : List TV := [.nils, .nils, .nils, .int .i64 0]
theorem aB.fin (B K : Nat) (objs : aI) (x : aB) : jk B objs K (x.tw B) (x.tw K) := .cons (cT (fun x => aa.fin B K objs x) _) (.cons (cT (fun x => az.fin B K objs x) _) (.cons (cT (fun x => ar.fin B K objs x) _) (.cons (.flat rfl) (.nil))))
theorem aB.len (lo : Nat) (l : List aB) : (l.map (aB.tw lo)).length = l.length := by simp
section
variable {G : World -> Prop}
theorem qR (hst : ay G) (lo : Nat) (x : aB) (left : Int) (h : 0 <= left /\ left <= 1048576) (hb : x.small 9223372036854775807) : CtM Tryz.prog G 12 [.agg (x.tw lo), .int .i64 left] [] (fun y : Int => -1 <= y /\ y <= left /\ (0 <= y -> x.small 1048576)) (fun _ => []) (fun y => .int .i64 y) := by
 refine aA Tryz.func12 rfl Tryz.ntmps12 rfl rfl rfl fun w0 R gs objsR hG hR => ?_
 obtain rfl := hR.inv0
 clear hR
 unfold aB.small at hb
 skip
 unfold aB.tw
 repeat' (first | refine W_ ?_ | refine aL ?_ | ((with_reducible apply aJ); rfl; kernel_rfl; (repeat (first | exact aH.nil | ((with_reducible apply aH.cons); rfl))); exact hG; exact i8 hst lo x.classes _ (by omega) hb.1; exact .nil _; intro y1 hy1; refine bO ?_) | ((with_reducible apply aJ); rfl; kernel_rfl; (repeat (first | exact aH.nil | ((with_reducible apply aH.cons); rfl))); exact hG; exact ym hst lo x.codes _ (by omega) hb.2.1; exact .nil _; intro y2 hy2; refine bO ?_) | ((with_reducible apply aJ); rfl; kernel_rfl; (repeat (first | exact aH.nil | ((with_reducible apply aH.cons); rfl))); exact hG; exact ws hst lo x.entries _ (by omega) hb.2.2; exact .nil _; intro y3 hy3; refine bO ?_) | refine c_ (fun hc => ?_) (fun hc => ?_))
 all_goals first
   | exact aw x_ rfl (-1) ⟨by omega, by omega, fun h => by omega⟩ rfl (.nil R) (.refl _) (.tmp _ _ rfl) rfl
   | (refine aw x_ rfl _ ⟨?_, ?_, fun _ => ?_⟩ rfl (.nil R) (.refl _) (.tmp _ _ rfl) rfl
      ·omega
      ·omega
      ·exact ⟨hy1.2.2 (by omega), hy2.2.2 (by omega), hy3.2.2 (by omega)⟩)
theorem qZ (hst : ay G) (lo : Nat) (x : aB) (hb : x.small 1048576) : Ct Tryz.prog G 14 [.agg (x.tw lo)] (fun K => .agg (x.tw K)) := by
 refine ap Tryz.func14 rfl Tryz.ntmps14 rfl rfl fun w0 _ hG => ?_
 unfold aB.small at hb
 have hsclasses := hb.1
 have hscodes := hb.2.1
 have hsentries := hb.2.2
 repeat' (first | refine W_ ?_ | refine aL ?_ | (refine ai ?_; intro ss bb) | refine ac ?_ | refine ab hG hst (jm hst lo x.classes (hsclasses)) ?_ | refine ab hG hst (x3 hst lo x.codes (hscodes)) ?_ | refine ab hG hst (vS hst lo x.entries (hsentries)) ?_)
 refine aE x_ rfl (.cell _ _ _ _ _ rfl mm_ (by kernel_rfl) (by kernel_rfl) (by kernel_rfl)) (fun _ => ?_)
 exact e8 (aB.fin _ _ _ x)
theorem rq (hst : ay G) (l1 l2 : Nat) (x : aB) (hb : x.small 1048576) : Ct Tryz.prog G 17 [.agg (x.tw l1), .agg (x.tw l2)] (fun _ => .bool true) := by
 refine ap Tryz.func17 rfl Tryz.ntmps17 rfl rfl fun w0 _ hG => ?_
 unfold aB.small at hb
 have hsclasses := hb.1
 have hscodes := hb.2.1
 have hsentries := hb.2.2
 unfold aB.tw
 repeat' (first | refine W_ ?_ | refine aL ?_ | refine ab hG hst (jq hst l1 l2 x.classes hsclasses) ?_ | refine ab hG hst (yG hst l1 l2 x.codes hscodes) ?_ | refine ab hG hst (uT hst l1 l2 x.entries hsentries) ?_)
 all_goals first
   | (exfalso; simp at hc; done)
   | (exact r1_)
end
def ft.tw (_lo : Nat) (x : ft) : List TV := [.int .i64 x.code, .int .i64 x.at_, .int .i64 x.kind]
def ft.small (_n : Nat) (_x : ft) : Prop := True
def ft.tz : List TV := [.int .i64 0, .int .i64 0, .int .i64 0]
theorem ft.fin (B K : Nat) (objs : aI) (x : ft) : jk B objs K (x.tw B) (x.tw K) := .cons (.flat rfl) (.cons (.flat rfl) (.cons (.flat rfl) (.nil)))
theorem ft.len (lo : Nat) (l : List ft) : (l.map (ft.tw lo)).length = l.length := by simp
section
variable {G : World -> Prop}
end
def bP : List aa := [⟨⟨#[79, 98, 106, 101, 99, 116]⟩, -1, []⟩, ⟨⟨#[69, 120, 99, 101, 112, 116, 105, 111, 110]⟩, 0, [⟨#[116, 101, 120, 116]⟩]⟩, ⟨⟨#[69, 114, 114, 111, 114]⟩, 1, [⟨#[116, 101, 120, 116]⟩]⟩, ⟨⟨#[77, 101, 115, 115, 97, 103, 101, 78, 111, 116, 85, 110, 100, 101, 114, 115, 116, 111, 111, 100]⟩, 2, [⟨#[116, 101, 120, 116]⟩]⟩, ⟨⟨#[90, 101, 114, 111, 68, 105, 118, 105, 100, 101]⟩, 2, [⟨#[116, 101, 120, 116]⟩]⟩, ⟨⟨#[73, 110, 116, 101, 103, 101, 114]⟩, 0, []⟩, ⟨⟨#[66, 111, 111, 108, 101, 97, 110]⟩, 0, []⟩, ⟨⟨#[78, 105, 108]⟩, 0, []⟩, ⟨⟨#[83, 116, 114, 105, 110, 103]⟩, 0, []⟩, ⟨⟨#[83, 121, 109, 98, 111, 108]⟩, 0, []⟩, ⟨⟨#[65, 114, 114, 97, 121]⟩, 0, []⟩, ⟨⟨#[66, 108, 111, 99, 107]⟩, 0, []⟩, ⟨⟨#[83, 101, 109, 97, 112, 104, 111, 114, 101]⟩, 0, []⟩, ⟨⟨#[80, 114, 111, 99, 101, 115, 115]⟩, 0, []⟩, ⟨⟨#[84, 114, 97, 110, 115, 99, 114, 105, 112, 116]⟩, 0, []⟩, ⟨⟨#[67, 108, 97, 115, 115]⟩, 0, []⟩]
def cQ : List ByteArray := [⟨#[79, 98, 106, 101, 99, 116]⟩, ⟨#[69, 120, 99, 101, 112, 116, 105, 111, 110]⟩, ⟨#[69, 114, 114, 111, 114]⟩, ⟨#[77, 101, 115, 115, 97, 103, 101, 78, 111, 116, 85, 110, 100, 101, 114, 115, 116, 111, 111, 100]⟩, ⟨#[90, 101, 114, 111, 68, 105, 118, 105, 100, 101]⟩, ⟨#[73, 110, 116, 101, 103, 101, 114]⟩, ⟨#[66, 111, 111, 108, 101, 97, 110]⟩, ⟨#[78, 105, 108]⟩, ⟨#[83, 116, 114, 105, 110, 103]⟩, ⟨#[83, 121, 109, 98, 111, 108]⟩, ⟨#[65, 114, 114, 97, 121]⟩, ⟨#[66, 108, 111, 99, 107]⟩, ⟨#[83, 101, 109, 97, 112, 104, 111, 114, 101]⟩, ⟨#[80, 114, 111, 99, 101, 115, 115]⟩, ⟨#[84, 114, 97, 110, 115, 99, 114, 105, 112, 116]⟩, ⟨#[67, 108, 97, 115, 115]⟩]
def ir (k : Int) : List ByteArray := if k = 1 \/ k = 2 \/ k = 3 \/ k = 4 then [⟨#[116, 101, 120, 116]⟩] else []
def xq : List (List TV) := [[TV.int .i64 (-1)], [TV.int .i64 0], [TV.int .i64 1], [TV.int .i64 2], [TV.int .i64 2], [TV.int .i64 0], [TV.int .i64 0], [TV.int .i64 0], [TV.int .i64 0], [TV.int .i64 0], [TV.int .i64 0], [TV.int .i64 0], [TV.int .i64 0], [TV.int .i64 0], [TV.int .i64 0], [TV.int .i64 0]]
theorem fP : bP.length = 16 := rfl
theorem jE {i : Nat} (h : i < 16) : ∃ x, bP[i]? = some x /\ (cg cQ)[i]? = some [.str x.name] /\ xq[i]? = some [.int .i64 x.parent] /\ ir (i : Int) = x.fields /\ bP.take (i + 1) = bP.take i ++ [x] := by
 match i, h with
 | 0, _ => exact ⟨_, rfl, rfl, rfl, rfl, rfl⟩
 | 1, _ => exact ⟨_, rfl, rfl, rfl, rfl, rfl⟩
 | 2, _ => exact ⟨_, rfl, rfl, rfl, rfl, rfl⟩
 | 3, _ => exact ⟨_, rfl, rfl, rfl, rfl, rfl⟩
 | 4, _ => exact ⟨_, rfl, rfl, rfl, rfl, rfl⟩
 | 5, _ => exact ⟨_, rfl, rfl, rfl, rfl, rfl⟩
 | 6, _ => exact ⟨_, rfl, rfl, rfl, rfl, rfl⟩
 | 7, _ => exact ⟨_, rfl, rfl, rfl, rfl, rfl⟩
 | 8, _ => exact ⟨_, rfl, rfl, rfl, rfl, rfl⟩
 | 9, _ => exact ⟨_, rfl, rfl, rfl, rfl, rfl⟩
 | 10, _ => exact ⟨_, rfl, rfl, rfl, rfl, rfl⟩
 | 11, _ => exact ⟨_, rfl, rfl, rfl, rfl, rfl⟩
 | 12, _ => exact ⟨_, rfl, rfl, rfl, rfl, rfl⟩
 | 13, _ => exact ⟨_, rfl, rfl, rfl, rfl, rfl⟩
 | 14, _ => exact ⟨_, rfl, rfl, rfl, rfl, rfl⟩
 | 15, _ => exact ⟨_, rfl, rfl, rfl, rfl, rfl⟩
 | n + 16, h => omega
section
variable {G : World -> Prop}
theorem pE : Ct Tryz.prog G 252 [] (fun K => .sl K 1 (cg cQ)) := by
 refine ap Tryz.func252 rfl Tryz.ntmps252 rfl rfl fun w0 _ hG => ?_
 repeat' (first | refine W_ ?_ | refine dV ?_)
 refine aE (r1 := .tmp 0) (t1 := .sl w0.heap.size 1 (cg cQ)) (.inr rfl) rfl (.tmp _ _ rfl) (fun _ => ?_)
 exact cT (f := fun s : ByteArray => [TV.str s]) (f' := fun s : ByteArray => [TV.str s]) (fun x => .cons (.flat rfl) .nil) cQ
theorem pi : Ct Tryz.prog G 263 [] (fun K => .sl K 1 (cg cQ)) := by
 refine ap Tryz.func263 rfl Tryz.ntmps263 rfl rfl fun w0 _ hG => ?_
 repeat' (first | refine W_ ?_ | refine dV ?_)
 refine aE (r1 := .tmp 0) (t1 := .sl w0.heap.size 1 (cg cQ)) (.inr rfl) rfl (.tmp _ _ rfl) (fun _ => ?_)
 exact cT (f := fun s : ByteArray => [TV.str s]) (f' := fun s : ByteArray => [TV.str s]) (fun x => .cons (.flat rfl) .nil) cQ
theorem vK (tu : TV) (k : Int) (h : k < 16) : Ct Tryz.prog G 253 [tu, .int .i64 k] (fun K => .sl K 1 (cg (ir k))) := by
 refine ap Tryz.func253 rfl Tryz.ntmps253 rfl rfl fun w0 _ hG => ?_
 by_cases hk : k = 1 \/ k = 2 \/ k = 3 \/ k = 4
 ·rw [show ir k = [⟨#[116, 101, 120, 116]⟩] from if_pos hk]
  repeat' (first | refine W_ ?_ | refine dV ?_ | refine g_ (fun hg => ?_) (fun hg => ?_))
  all_goals first
    | (exfalso; omega)
    | (refine aE x_ rfl (.tmp _ _ rfl) (fun _ => ?_)
       exact cT (f := fun s : ByteArray => [TV.str s]) (f' := fun s : ByteArray => [TV.str s]) (fun x => .cons (.flat rfl) .nil) [⟨#[116, 101, 120, 116]⟩])
 ·rw [show ir k = [] from if_neg hk]
  repeat' (first | refine W_ ?_ | refine dV ?_)
  all_goals first
    | (exfalso; omega)
    | (refine aE x_ rfl (.tmp _ _ rfl) (fun _ => ?_)
       exact cT (f := fun s : ByteArray => [TV.str s]) (f' := fun s : ByteArray => [TV.str s]) (fun x => .cons (.flat rfl) .nil) [])
theorem x2 (hst : ay G) (rest : List TV) : Ct Tryz.prog G 199 [.cp 0 (.nils :: rest)] (fun K => .sl K 3 (bP.map (aa.tw K))) := by
 refine ap Tryz.func199 rfl Tryz.ntmps199 rfl rfl fun w0 _ hG => ?_
 repeat' (first | refine H_ 3 ?_ | refine ab hG hst (pE) ?_ | (refine kE ?_; intro ss bb))
 refine ⟨?_⟩
 repeat' (first | refine W_ ?_ | refine dV ?_)
 apply aj (X := Nat × Nat) [0, 4, 5] (fun x => [(6, .int .i64 (x.1 : Int)), (3, .ms ss x.2 0 x.1)]) (fun x => [(ss, x.2, .row 3 ((bP.take x.1).map (aa.tw w0.heap.size)))]) (fun x => x.1 <= 16) (fun x => 16 - x.1) (0, bb) (Nat.zero_le _)
 exact kp_; exact nw_
 ·exact .refl _
 rintro ⟨i, b⟩ hi
 dsimp only at hi |-
 by_cases hlt : i < 16
 ·obtain ⟨x, hx, h1, h2, h3, h4⟩ := jE hlt
  unfold xq at h2
  have hle : ((bP.take i).map (aa.tw w0.heap.size)).length = i := by rw [List.length_map, List.length_take, fP]; omega
  repeat' (first | refine W_ ?_ | (with_reducible apply jH (id := 7) 14; kernel_rfl; kernel_rfl; kernel_rfl; (repeat (first | exact Cut.zero _ | apply Cut.succ))) | with_reducible refine gI (by kernel_rfl) (by kernel_rfl) ?_ | with_reducible refine jU ?_ | with_reducible refine gN ?_ | with_reducible refine gG rfl ?_ | refine jP rfl rfl rfl rr_ ?_ | refine gH rfl rfl rfl rr_ rfl rfl rfl ?_ | refine fk rfl rfl rfl rr_ rfl rfl ?_ | (refine o7 rfl rfl rfl rr_ dd_ ?_) | (refine pv rfl rfl rfl rr_ dd_ ?_) | (refine eD rfl rfl rfl rr_ (fun hg => ?_) (fun hg => ?_)) | (refine eh rfl rfl rfl rr_ (fun hg => ?_) (fun hg => ?_)) | ((with_reducible apply d_y); exact y_; rfl) | ((with_reducible apply adh); rfl; kernel_rfl; (repeat (first | exact bI.nil | ((with_reducible apply bI.cons); rfl; exact .same _))); exact hG; exact hst; exact vK _ _ (by omega)) | refine acI ?_ | refine aeG ?_ | (refine tB ?_; intro bb))
  have hrow : (bP.take i).map (aa.tw w0.heap.size) ++ [[TV.str x.name, .int .i64 x.parent, .sl w0.heap.size 1 (cg (ir i))]] = (bP.take (i + 1)).map (aa.tw w0.heap.size) := by
    rw [h4, h3, List.map_append]; rfl
  rw [hrow]
  exact ag (i + 1, bb) (by dsimp only; omega) (by dsimp only; omega) (.of _ nw_ od_ pk_)
 ·obtain rfl : i = 16 := by omega
  repeat' refine W_ ?_
  apply aj (X := Unit) [0, 3] (fun _ => [(7, .int .i64 0)]) (fun _ => [(ss, b, .row 3 (bP.map (aa.tw w0.heap.size)))]) (fun _ => True) (fun _ => 0) () trivial
  exact kp_; exact nw_
  ·exact .refl _
  rintro _ -
  repeat' refine W_ ?_
  refine aE x_ rfl (.tmp _ _ rfl) (fun _ => ?_)
  exact gP (fun x => aa.fin _ _ _ x) List.mem_cons_self
end
def nR {α : Type} (mk : α -> Nat × Nat -> List TV) (l : List α) (ps : List (Nat × Nat)) : List (List TV) := List.zipWith mk l ps
def nO {α : Type} (ob : α -> ba) (l : List α) (ps : List (Nat × Nat)) : aI := List.zipWith (fun x p => (p.1, p.2, ob x)) l ps
theorem oO {α : Type} (mk : α -> Nat × Nat -> List TV) {l : List α} {ps : List (Nat × Nat)} (h : ps.length = l.length) : (nR mk l ps).length = l.length := by simp [nR, h]
theorem cY {α : Type} {l : List α} {i : Nat} (h : i < l.length) : l.take (i + 1) = l.take i ++ [l[i]] := by rw [List.take_add_one, List.getElem?_eq_getElem h]; rfl
theorem lS {α : Type} (ob : α -> ba) {l : List α} {ps : List (Nat × Nat)} {i : Nat} (h : i < l.length) (hp : ps.length = i) (p : Nat × Nat) : nO ob (l.take (i + 1)) (ps ++ [p]) = nO ob (l.take i) ps ++ [(p.1, p.2, ob l[i])] := by
 unfold nO
 rw [cY h, List.zipWith_append (by simp; omega)]; rfl
theorem acW {α : Type} (mk : α -> Nat × Nat -> List TV) (z : List TV) {l : List α} {ps : List (Nat × Nat)} {i : Nat} (h : i < l.length) (hp : ps.length = i) (p : Nat × Nat) :
   (nR mk (l.take i) ps ++ List.replicate (l.length - i) z)[i]? = some z /\ (nR mk (l.take i) ps ++ List.replicate (l.length - i) z).set i (mk l[i] p) = nR mk (l.take (i + 1)) (ps ++ [p]) ++ List.replicate (l.length - (i + 1)) z := by
 have hl : (nR mk (l.take i) ps).length = i := by simp [nR]; omega
 have e : l.length - i = (l.length - (i + 1)) + 1 := by omega
 refine ⟨?_, ?_⟩
 ·rw [List.getElem?_append_right (by omega), hl, Nat.sub_self, e, List.replicate_succ]; rfl
 ·rw [List.set_append_right _ _ (by omega), hl, Nat.sub_self, e, List.replicate_succ, List.set_cons_zero]
  unfold nR
  rw [cY h, List.zipWith_append (by simp; omega), List.append_assoc]; rfl
theorem li (a z : Nat × Nat × ba) (T R : aI) : cC (a :: ((T ++ [z]) ++ R)) (z :: a :: (T ++ R)) := .perm (by
 have h : ((T ++ [z]) ++ R).Perm (z :: (T ++ R)) := by rw [List.append_assoc]; exact List.perm_middle
 exact (h.cons a).trans (List.Perm.swap z a _))
def eS (x : aa) (p : Nat × Nat) : List TV := [.str x.name, .int .i64 x.parent, .ms p.1 p.2 0 x.fields.length]
def fT (x : aa) : ba := .row 1 (cg x.fields)
def ey (x : az) (p : Nat × Nat) : List TV := [.bool x.block, .int .i64 x.params, .int .i64 x.slots, .ms p.1 p.2 0 x.instrs.length]
def fx (x : az) : ba := .row 4 (x.instrs.map (ah.tw 0))
section
variable {G : World -> Prop}
theorem kH (_hst : ay G) (lo : Nat) (l : List ByteArray) (hn : l.length <= 1048576) : CtM Tryz.prog G 174 [.sl lo 1 (cg l)] [] (fun _ : Nat × Nat => True) (fun y => [(y.1, y.2, .row 1 (cg l))]) (fun y => .ms y.1 y.2 0 l.length) := by
 refine aA Tryz.func174 rfl Tryz.ntmps174 rfl rfl rfl fun w0 R gs objsR hG hR => ?_
 obtain rfl := hR.inv0
 clear hR
 have hlen := bJ l
 have h0 := bK (fun s : ByteArray => [TV.str s]) [.str ⟨#[]⟩] l
 repeat' (first | refine W_ ?_ | (refine dC ?_; intro ss bb))
 generalize ss = so; generalize bb = bo
 apply aj (X := Nat) [0, 3, 1000000] (fun i => [(4, .int .i64 (i : Int))]) (fun i => (so, bo, .row 1 (di (fun s : ByteArray => [TV.str s]) [.str ⟨#[]⟩] l i)) :: R) (fun i => i <= l.length) (fun i => l.length - i) 0 (Nat.zero_le _)
 exact kp_; exact nw_
 ·rw [<- h0]; exact .refl _
 intro i hi
 try dsimp only
 by_cases hlt : i < l.length
 ·obtain ⟨hrow, hset⟩ := cj (fun s : ByteArray => [TV.str s]) [.str ⟨#[]⟩] hlt
  have hra := ea hlt
  generalize l[i] = x at hset hra
  try dsimp only at hset
  repeat' (first | refine W_ ?_ | refine bg ?_)
  refine ag (i + 1) (by omega) (by omega) (.of _ nw_ od_ (by rw [<- hset]; exact .refl _))
 ·obtain rfl : i = l.length := by omega
  rw [bL]
  repeat' refine W_ ?_
  exact aw x_ rfl (so, bo) trivial rfl (.cons _ _ _ _ (.nil R)) pk_ (.tmp _ _ rfl) rfl
theorem tK (hst : ay G) (lo : Nat) (l : List ah) (hb : l.length <= 1048576 /\ ∀ y ∈ l, ah.small 1048576 y) : CtM Tryz.prog G 208 [.sl lo 4 (l.map (ah.tw lo))] [] (fun _ : Nat × Nat => True) (fun y => [(y.1, y.2, .row 4 (l.map (ah.tw 0)))]) (fun y => .ms y.1 y.2 0 l.length) := by
 refine aA Tryz.func208 rfl Tryz.ntmps208 rfl rfl rfl fun w0 R gs objsR hG hR => ?_
 obtain rfl := hR.inv0
 clear hR
 have hlen := ah.len lo l
 have hl1 := hb.1
 have h0 := bK (ah.tw 0) ah.tz l
 repeat' (first | refine W_ ?_ | (refine dC ?_; intro ss bb))
 generalize ss = so; generalize bb = bo
 apply aj (X := Nat) [0, 3, 1000000] (fun i => [(4, .int .i64 (i : Int))]) (fun i => (so, bo, .row 4 (di (ah.tw 0) ah.tz l i)) :: R) (fun i => i <= l.length) (fun i => l.length - i) 0 (Nat.zero_le _)
 exact kp_; exact nw_
 ·rw [<- h0]; exact .refl _
 intro i hi
 try dsimp only
 by_cases hlt : i < l.length
 ·obtain ⟨hrow, hset⟩ := cj (ah.tw 0) ah.tz hlt
  have hra : (l.map (ah.tw lo))[i]? = some (l[i].tw lo) := aK hlt
  have hbi := hb.2 _ (List.getElem_mem hlt)
  generalize l[i] = x at hset hra hbi
  have hct := qs hst lo x hbi
  unfold ah.tw at hct
  rw [show x.tw lo = [.int .i64 x.op, .int .i64 x.a, .int .i64 x.b, .str x.text] from rfl] at hra
  replace hrow : (di (ah.tw 0) ah.tz l i)[i]? = some [.int .i64 0, .int .i64 0, .int .i64 0, .str ⟨#[]⟩] := hrow
  repeat' (first | refine W_ ?_ | refine ab hG hst (hct) ?_ | refine bg ?_)
  refine ag (i + 1) (by omega) (by omega) (.of _ nw_ od_ (by rw [<- hset]; exact .refl _))
 ·obtain rfl : i = l.length := by omega
  rw [bL]
  repeat' refine W_ ?_
  exact aw x_ rfl (so, bo) trivial rfl (.cons _ _ _ _ (.nil R)) pk_ (.tmp _ _ rfl) rfl
theorem uL (hst : ay G) (lo : Nat) (l : List ar) (hb : l.length <= 1048576 /\ ∀ y ∈ l, ar.small 1048576 y) : CtM Tryz.prog G 53 [.sl lo 4 (l.map (ar.tw lo))] [] (fun _ : Nat × Nat => True) (fun y => [(y.1, y.2, .row 4 (l.map (ar.tw 0)))]) (fun y => .ms y.1 y.2 0 l.length) := by
 refine aA Tryz.func53 rfl Tryz.ntmps53 rfl rfl rfl fun w0 R gs objsR hG hR => ?_
 obtain rfl := hR.inv0
 clear hR
 have hlen := ar.len lo l
 have hl1 := hb.1
 have h0 := bK (ar.tw 0) ar.tz l
 repeat' (first | refine W_ ?_ | (refine dC ?_; intro ss bb))
 generalize ss = so; generalize bb = bo
 apply aj (X := Nat) [0, 3, 1000000] (fun i => [(4, .int .i64 (i : Int))]) (fun i => (so, bo, .row 4 (di (ar.tw 0) ar.tz l i)) :: R) (fun i => i <= l.length) (fun i => l.length - i) 0 (Nat.zero_le _)
 exact kp_; exact nw_
 ·rw [<- h0]; exact .refl _
 intro i hi
 try dsimp only
 by_cases hlt : i < l.length
 ·obtain ⟨hrow, hset⟩ := cj (ar.tw 0) ar.tz hlt
  have hra : (l.map (ar.tw lo))[i]? = some (l[i].tw lo) := aK hlt
  have hbi := hb.2 _ (List.getElem_mem hlt)
  generalize l[i] = x at hset hra hbi
  have hct := p6 hst lo x hbi
  unfold ar.tw at hct
  rw [show x.tw lo = [.int .i64 x.owner, .bool x.class_, .str x.selector, .int .i64 x.code] from rfl] at hra
  replace hrow : (di (ar.tw 0) ar.tz l i)[i]? = some [.int .i64 0, .bool false, .str ⟨#[]⟩, .int .i64 0] := hrow
  repeat' (first | refine W_ ?_ | refine ab hG hst (hct) ?_ | refine bg ?_)
  refine ag (i + 1) (by omega) (by omega) (.of _ nw_ od_ (by rw [<- hset]; exact .refl _))
 ·obtain rfl : i = l.length := by omega
  rw [bL]
  repeat' refine W_ ?_
  exact aw x_ rfl (so, bo) trivial rfl (.cons _ _ _ _ (.nil R)) pk_ (.tmp _ _ rfl) rfl
theorem nN (hst : ay G) (lo : Nat) (x : aa) (hb : x.small 1048576) : CtM Tryz.prog G 131 [.agg [.str x.name, .int .i64 x.parent, .sl lo 1 (cg x.fields)]] [] (fun _ : Nat × Nat => True) (fun y => [(y.1, y.2, .row 1 (cg x.fields))]) (fun y => .agg [.str x.name, .int .i64 x.parent, .ms y.1 y.2 0 x.fields.length]) := by
 refine aA Tryz.func131 rfl Tryz.ntmps131 rfl rfl rfl fun w0 R gs objsR hG hR => ?_
 obtain rfl := hR.inv0
 clear hR
 have hin := kH hst lo x.fields hb.2.1
 repeat' (first | refine W_ ?_ | refine aL ?_ | (refine ai ?_; intro ss bb) | refine ac ?_ | ((with_reducible apply aJ); rfl; kernel_rfl; (repeat (first | exact aH.nil | ((with_reducible apply aH.cons); rfl))); exact hG; exact hin; exact .nil _; intro y hy; refine bN ?_))
 refine aw x_ rfl y trivial rfl (.cons _ _ _ _ (.nil R)) pk_ (.cell _ _ _ _ _ rfl mm_ (by kernel_rfl) (by kernel_rfl) (by kernel_rfl)) rfl
theorem iP (hst : ay G) (lo : Nat) (l : List aa) (hb : l.length <= 1048576 /\ ∀ y ∈ l, aa.small 1048576 y) : CtM Tryz.prog G 51 [.sl lo 3 (l.map (aa.tw lo))] [] (fun y : (Nat × Nat) × List (Nat × Nat) => y.2.length = l.length) (fun y => (y.1.1, y.1.2, .row 3 (nR eS l y.2)) :: nO fT l y.2) (fun y => .ms y.1.1 y.1.2 0 l.length) := by
 refine aA Tryz.func51 rfl Tryz.ntmps51 rfl rfl rfl fun w0 R gs objsR hG hR => ?_
 obtain rfl := hR.inv0
 clear hR
 have hlen := aa.len lo l
 have hl1 := hb.1
 have h0 : List.replicate l.length aa.tz = nR eS (l.take 0) [] ++ List.replicate (l.length - 0) aa.tz := by simp [nR]
 repeat' (first | refine W_ ?_ | (refine dC ?_; intro ss bb))
 generalize ss = so; generalize bb = bo
 apply aj (X := Nat × List (Nat × Nat)) [0, 3, 1000000] (fun x => [(4, .int .i64 (x.1 : Int))]) (fun x => (so, bo, .row 3 (nR eS (l.take x.1) x.2 ++ List.replicate (l.length - x.1) aa.tz)) :: (nO fT (l.take x.1) x.2 ++ R)) (fun x => x.1 <= l.length /\ x.2.length = x.1) (fun x => l.length - x.1) (0, []) ⟨Nat.zero_le _, rfl⟩
 exact kp_; exact nw_
 ·rw [<- h0]; exact .refl _
 rintro ⟨i, ps⟩ ⟨hi, hps⟩
 dsimp only at hi hps |-
 by_cases hlt : i < l.length
 ·have hrs := fun p => acW eS aa.tz hlt hps p
  have hos := fun p => lS fT hlt hps p
  have hra : (l.map (aa.tw lo))[i]? = some (l[i].tw lo) := aK hlt
  have hbi := hb.2 _ (List.getElem_mem hlt)
  generalize l[i] = x at hrs hos hra hbi
  have hct := nN hst lo x hbi
  rw [show x.tw lo = [.str x.name, .int .i64 x.parent, .sl lo 1 (cg x.fields)] from rfl] at hra
  have hrow : (nR eS (l.take i) ps ++ List.replicate (l.length - i) aa.tz)[i]? = some [.str ⟨#[]⟩, .int .i64 0, .nils] := (hrs (0, 0)).1
  generalize nO fT (l.take i) ps = T at hos |-
  repeat' (first | refine W_ ?_ | ((with_reducible apply aJ); rfl; kernel_rfl; (repeat (first | exact aH.nil | ((with_reducible apply aH.cons); rfl))); exact hG; exact hct; exact .nil _; intro y hy; refine bN ?_) | refine bg ?_)
  refine ag (i + 1, ps ++ [y]) ⟨by dsimp only; omega, by dsimp only; simp [hps]⟩ (by dsimp only; omega) (.of _ nw_ od_ ?_)
  dsimp only
  rw [hos y, <- (hrs y).2]
  exact li _ _ T R
 ·obtain rfl : i = l.length := by omega
  rw [List.take_of_length_le (Nat.le_refl _), Nat.sub_self, List.replicate_zero, List.append_nil]
  repeat' refine W_ ?_
  exact aw x_ rfl ((so, bo), ps) hps rfl (.cons _ _ _ _ (.app _ R)) (.refl _) (.tmp _ _ rfl) rfl
theorem x4 (hst : ay G) (lo : Nat) (x : az) (hb : x.small 1048576) : CtM Tryz.prog G 132 [.agg [.bool x.block, .int .i64 x.params, .int .i64 x.slots, .sl lo 4 (x.instrs.map (ah.tw lo))]] [] (fun _ : Nat × Nat => True) (fun y => [(y.1, y.2, .row 4 (x.instrs.map (ah.tw 0)))]) (fun y => .agg [.bool x.block, .int .i64 x.params, .int .i64 x.slots, .ms y.1 y.2 0 x.instrs.length]) := by
 refine aA Tryz.func132 rfl Tryz.ntmps132 rfl rfl rfl fun w0 R gs objsR hG hR => ?_
 obtain rfl := hR.inv0
 clear hR
 have hin := tK hst lo x.instrs hb
 repeat' (first | refine W_ ?_ | refine aL ?_ | (refine ai ?_; intro ss bb) | refine ac ?_ | ((with_reducible apply aJ); rfl; kernel_rfl; (repeat (first | exact aH.nil | ((with_reducible apply aH.cons); rfl))); exact hG; exact hin; exact .nil _; intro y hy; refine bN ?_))
 refine aw x_ rfl y trivial rfl (.cons _ _ _ _ (.nil R)) pk_ (.cell _ _ _ _ _ rfl mm_ (by kernel_rfl) (by kernel_rfl) (by kernel_rfl)) rfl
theorem vV (hst : ay G) (lo : Nat) (l : List az) (hb : l.length <= 1048576 /\ ∀ y ∈ l, az.small 1048576 y) : CtM Tryz.prog G 52 [.sl lo 4 (l.map (az.tw lo))] [] (fun y : (Nat × Nat) × List (Nat × Nat) => y.2.length = l.length) (fun y => (y.1.1, y.1.2, .row 4 (nR ey l y.2)) :: nO fx l y.2) (fun y => .ms y.1.1 y.1.2 0 l.length) := by
 refine aA Tryz.func52 rfl Tryz.ntmps52 rfl rfl rfl fun w0 R gs objsR hG hR => ?_
 obtain rfl := hR.inv0
 clear hR
 have hlen := az.len lo l
 have hl1 := hb.1
 have h0 : List.replicate l.length az.tz = nR ey (l.take 0) [] ++ List.replicate (l.length - 0) az.tz := by simp [nR]
 repeat' (first | refine W_ ?_ | (refine dC ?_; intro ss bb))
 generalize ss = so; generalize bb = bo
 apply aj (X := Nat × List (Nat × Nat)) [0, 3, 1000000] (fun x => [(4, .int .i64 (x.1 : Int))]) (fun x => (so, bo, .row 4 (nR ey (l.take x.1) x.2 ++ List.replicate (l.length - x.1) az.tz)) :: (nO fx (l.take x.1) x.2 ++ R)) (fun x => x.1 <= l.length /\ x.2.length = x.1) (fun x => l.length - x.1) (0, []) ⟨Nat.zero_le _, rfl⟩
 exact kp_; exact nw_
 ·rw [<- h0]; exact .refl _
 rintro ⟨i, ps⟩ ⟨hi, hps⟩
 dsimp only at hi hps |-
 by_cases hlt : i < l.length
 ·have hrs := fun p => acW ey az.tz hlt hps p
  have hos := fun p => lS fx hlt hps p
  have hra : (l.map (az.tw lo))[i]? = some (l[i].tw lo) := aK hlt
  have hbi := hb.2 _ (List.getElem_mem hlt)
  generalize l[i] = x at hrs hos hra hbi
  have hct := x4 hst lo x hbi
  rw [show x.tw lo = [.bool x.block, .int .i64 x.params, .int .i64 x.slots, .sl lo 4 (x.instrs.map (ah.tw lo))] from rfl] at hra
  have hrow : (nR ey (l.take i) ps ++ List.replicate (l.length - i) az.tz)[i]? = some [.bool false, .int .i64 0, .int .i64 0, .nils] := (hrs (0, 0)).1
  generalize nO fx (l.take i) ps = T at hos |-
  repeat' (first | refine W_ ?_ | ((with_reducible apply aJ); rfl; kernel_rfl; (repeat (first | exact aH.nil | ((with_reducible apply aH.cons); rfl))); exact hG; exact hct; exact .nil _; intro y hy; refine bN ?_) | refine bg ?_)
  refine ag (i + 1, ps ++ [y]) ⟨by dsimp only; omega, by dsimp only; simp [hps]⟩ (by dsimp only; omega) (.of _ nw_ od_ ?_)
  dsimp only
  rw [hos y, <- (hrs y).2]
  exact li _ _ T R
 ·obtain rfl : i = l.length := by omega
  rw [List.take_of_length_le (Nat.le_refl _), Nat.sub_self, List.replicate_zero, List.append_nil]
  repeat' refine W_ ?_
  exact aw x_ rfl ((so, bo), ps) hps rfl (.cons _ _ _ _ (.app _ R)) (.refl _) (.tmp _ _ rfl) rfl
end
end Go.Proofs.YtiihihgjiklnoaaGreatDoor
